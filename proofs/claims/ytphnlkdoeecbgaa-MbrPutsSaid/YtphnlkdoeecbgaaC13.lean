import Derived.Test.YtphnlkdoeecbgaaProg
import Derived.Test.YtphnlkdoeecbgaaAM28
set_option maxRecDepth 100000
/-! The compiled functions; written by a program. -/
namespace Go.Proofs.Ytphnlkdoeecbgaa.AMC
open Go Go.AM Go.Proofs
/-- fettle/fettlelaw13.MbrEntries -/
def a6 : AFunc := ⟨1, [.tmp 2],
  (.both (.seq [⟨(some 2), none, .plain (.mov (.const (.bool false)))⟩])
  (.both (.both (.seq [⟨(some 8), none, .plain (.mov (.tmp 0))⟩,
      ⟨(some 9), none, .plain (.len .sl (.tmp 8))⟩,
      ⟨(some 10), none, .plain (.bin .gtr (.tmp 9) (.const (.int .i64 2000)))⟩])
   (.cond (.tmp 10)
    (.both (.seq [⟨(some 11), none, .call 35 []⟩,
       ⟨(some 2), none, .plain (.mov (.tmp 11))⟩])
    .ret)
    .skip))
  (.both (.seq [⟨(some 13), none, .plain (.mov (.tmp 0))⟩,
     ⟨(some 14), none, .call 36 [(.tmp 13)]⟩,
     ⟨(some 12), none, .plain (.mov (.tmp 14))⟩,
     ⟨(some 15), none, .plain (.extract (.tmp 12) 0)⟩,
     ⟨(some 16), none, .plain (.extract (.tmp 12) 1)⟩,
     ⟨(some 3), none, .plain (.mov (.tmp 15))⟩,
     ⟨(some 4), none, .plain (.mov (.tmp 16))⟩])
  (.both (.seq [⟨(some 18), none, .plain (.mov (.tmp 0))⟩,
     ⟨(some 19), none, .call 37 [(.tmp 18)]⟩,
     ⟨(some 17), none, .plain (.mov (.tmp 19))⟩,
     ⟨(some 20), none, .plain (.extract (.tmp 17) 0)⟩,
     ⟨(some 21), none, .plain (.extract (.tmp 17) 1)⟩,
     ⟨(some 5), none, .plain (.mov (.tmp 20))⟩,
     ⟨(some 6), none, .plain (.mov (.tmp 21))⟩])
  (.both (.both (.seq [⟨(some 22), none, .plain (.mov (.tmp 4))⟩,
      ⟨(some 23), none, .plain (.mov (.tmp 6))⟩,
      ⟨(some 24), none, .plain (.bin .neq (.tmp 22) (.tmp 23))⟩,
      ⟨(some 25), none, .plain (.mov (.tmp 24))⟩,
      ⟨(some 26), (some (25, false)), .plain (.mov (.tmp 3))⟩,
      ⟨(some 27), (some (25, false)), .plain (.len .sl (.tmp 26))⟩,
      ⟨(some 28), (some (25, false)), .plain (.mov (.tmp 5))⟩,
      ⟨(some 29), (some (25, false)), .plain (.len .sl (.tmp 28))⟩,
      ⟨(some 30), (some (25, false)), .plain (.bin .neq (.tmp 27) (.tmp 29))⟩,
      ⟨(some 31), none, .plain (.pick (.tmp 25) (.const (.bool true)) (.tmp 30))⟩])
   (.cond (.tmp 31)
    (.both (.seq [⟨(some 2), none, .plain (.mov (.const (.bool false)))⟩])
    .ret)
    .skip))
  (.both (.both (.seq [⟨(some 7), none, .plain (.mov (.const (.int .i64 0)))⟩])
   (.block 0 (.loop (.both (.both (.seq [⟨(some 32), none, .plain (.mov (.tmp 7))⟩,
         ⟨(some 33), none, .plain (.mov (.tmp 3))⟩,
         ⟨(some 34), none, .plain (.len .sl (.tmp 33))⟩,
         ⟨(some 35), none, .plain (.bin .lss (.tmp 32) (.tmp 34))⟩])
      (.cond (.tmp 35)
       .skip
       (.exit 0)))
     (.both (.block 1 (.both (.seq [⟨(some 38), none, .plain (.mov (.tmp 3))⟩,
          ⟨(some 39), none, .plain (.mov (.tmp 7))⟩,
          ⟨(some 40), none, .plain (.iaddr none 3 (.tmp 38) (.tmp 39))⟩,
          ⟨(some 41), none, .plain (.faddr 0 (.tmp 40))⟩,
          ⟨(some 42), none, .plain (.load none (.tmp 41))⟩,
          ⟨(some 43), none, .plain (.mov (.tmp 5))⟩,
          ⟨(some 44), none, .plain (.mov (.tmp 7))⟩,
          ⟨(some 45), none, .plain (.iaddr none 3 (.tmp 43) (.tmp 44))⟩,
          ⟨(some 46), none, .plain (.faddr 0 (.tmp 45))⟩,
          ⟨(some 47), none, .plain (.load none (.tmp 46))⟩,
          ⟨(some 48), none, .plain (.bin .neq (.tmp 42) (.tmp 47))⟩,
          ⟨(some 49), none, .plain (.mov (.tmp 48))⟩,
          ⟨(some 50), (some (49, false)), .plain (.mov (.tmp 3))⟩,
          ⟨(some 51), (some (49, false)), .plain (.mov (.tmp 7))⟩,
          ⟨(some 52), (some (49, false)), .plain (.iaddr none 3 (.tmp 50) (.tmp 51))⟩,
          ⟨(some 53), (some (49, false)), .plain (.faddr 1 (.tmp 52))⟩,
          ⟨(some 54), (some (49, false)), .plain (.load none (.tmp 53))⟩,
          ⟨(some 55), (some (49, false)), .plain (.mov (.tmp 5))⟩,
          ⟨(some 56), (some (49, false)), .plain (.mov (.tmp 7))⟩,
          ⟨(some 57), (some (49, false)), .plain (.iaddr none 3 (.tmp 55) (.tmp 56))⟩,
          ⟨(some 58), (some (49, false)), .plain (.faddr 1 (.tmp 57))⟩,
          ⟨(some 59), (some (49, false)), .plain (.load none (.tmp 58))⟩,
          ⟨(some 60), (some (49, false)), .plain (.bin .neq (.tmp 54) (.tmp 59))⟩,
          ⟨(some 61), none, .plain (.pick (.tmp 49) (.const (.bool true)) (.tmp 60))⟩,
          ⟨(some 62), none, .plain (.mov (.tmp 61))⟩,
          ⟨(some 63), (some (62, false)), .plain (.mov (.tmp 3))⟩,
          ⟨(some 64), (some (62, false)), .plain (.mov (.tmp 7))⟩,
          ⟨(some 65), (some (62, false)), .plain (.iaddr none 3 (.tmp 63) (.tmp 64))⟩,
          ⟨(some 66), (some (62, false)), .plain (.faddr 2 (.tmp 65))⟩,
          ⟨(some 67), (some (62, false)), .plain (.load none (.tmp 66))⟩,
          ⟨(some 68), (some (62, false)), .plain (.mov (.tmp 5))⟩,
          ⟨(some 69), (some (62, false)), .plain (.mov (.tmp 7))⟩,
          ⟨(some 70), (some (62, false)), .plain (.iaddr none 3 (.tmp 68) (.tmp 69))⟩,
          ⟨(some 71), (some (62, false)), .plain (.faddr 2 (.tmp 70))⟩,
          ⟨(some 72), (some (62, false)), .plain (.load none (.tmp 71))⟩,
          ⟨(some 73), (some (62, false)), .plain (.bin .neq (.tmp 67) (.tmp 72))⟩,
          ⟨(some 74), none, .plain (.pick (.tmp 62) (.const (.bool true)) (.tmp 73))⟩])
       (.cond (.tmp 74)
        (.both (.seq [⟨(some 2), none, .plain (.mov (.const (.bool false)))⟩])
        .ret)
        .skip)))
     (.seq [⟨(some 36), none, .plain (.mov (.tmp 7))⟩,
       ⟨(some 37), none, .plain (.bin .add (.tmp 36) (.const (.int .i64 1)))⟩,
       ⟨(some 7), none, .plain (.mov (.tmp 37))⟩]))))))
  (.both (.seq [⟨(some 75), none, .call 35 []⟩,
     ⟨(some 2), none, .plain (.mov (.tmp 75))⟩])
  .ret)))))))⟩
/-- fettle/fettlelaw13.MbrPuts -/
def a9 : AFunc := ⟨3, [.tmp 6],
  (.both (.seq [⟨(some 5), none, .plain (.box (.tmp 2))⟩,
     ⟨(some 6), none, .plain (.mov (.const (.bool false)))⟩])
  (.both (.both (.seq [⟨(some 10), none, .plain (.mov (.tmp 0))⟩,
      ⟨(some 11), none, .plain (.len .sl (.tmp 10))⟩,
      ⟨(some 12), none, .plain (.bin .gtr (.tmp 11) (.const (.int .i64 1000)))⟩])
   (.cond (.tmp 12)
    (.both (.seq [⟨(some 13), none, .call 35 []⟩,
       ⟨(some 6), none, .plain (.mov (.tmp 13))⟩])
    .ret)
    .skip))
  (.both (.seq [⟨(some 14), none, .plain (.mov (.tmp 0))⟩,
     ⟨(some 15), none, .plain (.mov (.tmp 0))⟩,
     ⟨(some 16), none, .plain (.len .sl (.tmp 15))⟩,
     ⟨(some 17), none, .call 16 [(.tmp 14), (.const (.int .i64 0)), (.tmp 16)]⟩,
     ⟨(some 7), none, .plain (.mov (.tmp 17))⟩])
  (.both (.seq [⟨(some 18), none, .plain (.mov (.tmp 7))⟩,
     ⟨(some 19), none, .plain (.mov (.tmp 1))⟩,
     ⟨(some 20), none, .plain (.load (some 3) (.tmp 5))⟩,
     ⟨(some 21), none, .call 41 [(.tmp 18), (.tmp 19), (.tmp 20)]⟩,
     ⟨(some 8), none, .plain (.mov (.tmp 21))⟩])
  (.both (.block 0 (.both (.seq [⟨(some 23), none, .plain (.mov (.tmp 0))⟩,
       ⟨(some 24), none, .plain (.len .sl (.tmp 23))⟩,
       ⟨(some 25), none, .plain (.bin .neq (.tmp 24) (.const (.int .i64 512)))⟩,
       ⟨(some 26), none, .plain (.mov (.tmp 25))⟩,
       ⟨(some 27), (some (26, false)), .plain (.mov (.tmp 1))⟩,
       ⟨(some 28), (some (26, false)), .plain (.bin .lss (.tmp 27) (.const (.int .i64 0)))⟩,
       ⟨(some 29), none, .plain (.pick (.tmp 26) (.const (.bool true)) (.tmp 28))⟩,
       ⟨(some 30), none, .plain (.mov (.tmp 29))⟩,
       ⟨(some 31), (some (30, false)), .plain (.mov (.tmp 1))⟩,
       ⟨(some 32), (some (30, false)), .plain (.bin .gtr (.tmp 31) (.const (.int .i64 3)))⟩,
       ⟨(some 33), none, .plain (.pick (.tmp 30) (.const (.bool true)) (.tmp 32))⟩,
       ⟨(some 22), none, .plain (.mov (.tmp 33))⟩])
    (.cond (.tmp 22)
     (.both (.seq [⟨(some 34), none, .call 35 []⟩,
        ⟨(some 35), none, .plain (.mov (.tmp 34))⟩,
        ⟨(some 36), (some (35, true)), .plain (.mov (.tmp 8))⟩,
        ⟨(some 37), (some (35, true)), .plain (.bin .eql (.tmp 36) (.const (.int .i64 4)))⟩,
        ⟨(some 38), none, .plain (.pick (.tmp 35) (.tmp 37) (.const (.bool false)))⟩,
        ⟨(some 39), none, .plain (.mov (.tmp 38))⟩,
        ⟨(some 40), (some (39, true)), .plain (.mov (.tmp 7))⟩,
        ⟨(some 41), (some (39, true)), .plain (.mov (.tmp 0))⟩,
        ⟨(some 42), (some (39, true)), .call 18 [(.tmp 40), (.tmp 41)]⟩,
        ⟨(some 43), none, .plain (.pick (.tmp 39) (.tmp 42) (.const (.bool false)))⟩,
        ⟨(some 6), none, .plain (.mov (.tmp 43))⟩])
     .ret)
     (.both (.seq [⟨(some 45), none, .plain (.load (some 3) (.tmp 5))⟩,
        ⟨(some 46), none, .call 42 [(.tmp 45)]⟩,
        ⟨(some 47), none, .plain (.un .not (.tmp 46))⟩,
        ⟨(some 44), none, .plain (.mov (.tmp 47))⟩])
     (.cond (.tmp 44)
      (.both (.seq [⟨(some 48), none, .call 35 []⟩,
         ⟨(some 49), none, .plain (.mov (.tmp 48))⟩,
         ⟨(some 50), (some (49, true)), .plain (.mov (.tmp 8))⟩,
         ⟨(some 51), (some (49, true)), .plain (.bin .eql (.tmp 50) (.const (.int .i64 20)))⟩,
         ⟨(some 52), none, .plain (.pick (.tmp 49) (.tmp 51) (.const (.bool false)))⟩,
         ⟨(some 53), none, .plain (.mov (.tmp 52))⟩,
         ⟨(some 54), (some (53, true)), .plain (.mov (.tmp 7))⟩,
         ⟨(some 55), (some (53, true)), .plain (.mov (.tmp 0))⟩,
         ⟨(some 56), (some (53, true)), .call 18 [(.tmp 54), (.tmp 55)]⟩,
         ⟨(some 57), none, .plain (.pick (.tmp 53) (.tmp 56) (.const (.bool false)))⟩,
         ⟨(some 6), none, .plain (.mov (.tmp 57))⟩])
      .ret)
      .skip)))))
  (.both (.seq [⟨(some 58), none, .plain (.mov (.tmp 0))⟩,
     ⟨(some 59), none, .plain (.mov (.tmp 1))⟩,
     ⟨(some 60), none, .plain (.bin .mul (.const (.int .i64 16)) (.tmp 59))⟩,
     ⟨(some 61), none, .plain (.bin .add (.const (.int .i64 446)) (.tmp 60))⟩,
     ⟨(some 62), none, .plain (.bin .add (.tmp 61) (.const (.int .i64 4)))⟩,
     ⟨(some 63), none, .plain (.faddr 0 (.tmp 5))⟩,
     ⟨(some 64), none, .plain (.load none (.tmp 63))⟩,
     ⟨(some 65), none, .plain (.conv (.int .u8) (.tmp 64))⟩,
     ⟨(some 66), none, .plain (.buildSlice ⟨1, 1, [(.int .u8 0)]⟩ 1 [(0, (.tmp 65))])⟩,
     ⟨(some 67), none, .call 43 [(.tmp 58), (.tmp 62), (.tmp 66)]⟩,
     ⟨(some 9), none, .plain (.mov (.tmp 67))⟩])
  (.both (.draw 0 [⟨0, .pure, 0, ⟨(some 68), none, .plain (.mov (.tmp 9))⟩, [], []⟩,
     ⟨1, .pure, 0, ⟨(some 69), none, .plain (.mov (.tmp 1))⟩, [], []⟩,
     ⟨2, .pure, 0, ⟨(some 70), none, .plain (.bin .mul (.const (.int .i64 16)) (.tmp 69))⟩, [], []⟩,
     ⟨3, .pure, 0, ⟨(some 71), none, .plain (.bin .add (.const (.int .i64 446)) (.tmp 70))⟩, [], []⟩,
     ⟨4, .pure, 0, ⟨(some 72), none, .plain (.bin .add (.tmp 71) (.const (.int .i64 8)))⟩, [], []⟩,
     ⟨5, .pure, 0, ⟨(some 73), none, .plain (.faddr 1 (.tmp 5))⟩, [], []⟩,
     ⟨6, .read, 0, ⟨(some 74), none, .plain (.load none (.tmp 73))⟩, [], []⟩,
     ⟨7, .pure, 0, ⟨(some 75), none, .plain (.conv (.int .u64) (.tmp 74))⟩, [], []⟩,
     ⟨9, .pure, 0, ⟨(some 77), none, .plain (.faddr 2 (.tmp 5))⟩, [], []⟩,
     ⟨10, .read, 0, ⟨(some 78), none, .plain (.load none (.tmp 77))⟩, [], []⟩,
     ⟨11, .pure, 0, ⟨(some 79), none, .plain (.conv (.int .u64) (.tmp 78))⟩, [], []⟩,
     ⟨8, .chain, 0, ⟨(some 76), none, .call 44 [(.tmp 75), (.const (.int .i64 4))]⟩, [10], []⟩,
     ⟨12, .chain, 0, ⟨(some 80), none, .call 44 [(.tmp 79), (.const (.int .i64 4))]⟩, [], []⟩,
     ⟨13, .chain, 0, ⟨(some 81), none, .plain (.append ⟨1, 1, [(.int .u8 0)]⟩ false (.tmp 76) (.tmp 80))⟩, [], []⟩,
     ⟨14, .chain, 0, ⟨(some 82), none, .call 43 [(.tmp 68), (.tmp 72), (.tmp 81)]⟩, [], []⟩,
     ⟨15, .pure, 0, ⟨(some 9), none, .plain (.mov (.tmp 82))⟩, [], []⟩])
  (.both (.seq [⟨(some 83), none, .call 35 []⟩,
     ⟨(some 84), none, .plain (.mov (.tmp 83))⟩,
     ⟨(some 85), (some (84, true)), .plain (.mov (.tmp 8))⟩,
     ⟨(some 86), (some (84, true)), .plain (.bin .eql (.tmp 85) (.const (.int .i64 0)))⟩,
     ⟨(some 87), none, .plain (.pick (.tmp 84) (.tmp 86) (.const (.bool false)))⟩,
     ⟨(some 88), none, .plain (.mov (.tmp 87))⟩,
     ⟨(some 89), (some (88, true)), .plain (.mov (.tmp 7))⟩,
     ⟨(some 90), (some (88, true)), .plain (.mov (.tmp 9))⟩,
     ⟨(some 91), (some (88, true)), .call 18 [(.tmp 89), (.tmp 90)]⟩,
     ⟨(some 92), none, .plain (.pick (.tmp 88) (.tmp 91) (.const (.bool false)))⟩,
     ⟨(some 6), none, .plain (.mov (.tmp 92))⟩])
  .ret))))))))⟩
/-- fettle/fettleref01.Part -/
def a16 : AFunc := ⟨3, [.tmp 6],
  (.both (.seq [⟨(some 6), none, .plain (.mov (.const (.slice none 0 0)))⟩])
  (.both (.seq [⟨(some 7), none, .plain (.mov (.const (.slice none 0 0)))⟩])
  (.both (.seq [⟨(some 8), none, .plain (.mov (.tmp 7))⟩,
     ⟨(some 9), none, .plain (.mov (.tmp 0))⟩,
     ⟨(some 10), none, .plain (.mov (.tmp 1))⟩,
     ⟨(some 11), none, .plain (.mov (.tmp 1))⟩,
     ⟨(some 12), none, .plain (.mov (.tmp 2))⟩,
     ⟨(some 13), none, .plain (.bin .add (.tmp 11) (.tmp 12))⟩,
     ⟨(some 14), none, .plain (.cut (.sl 1) (.tmp 9) (some (.tmp 10)) (some (.tmp 13)) none)⟩,
     ⟨(some 15), none, .plain (.append ⟨1, 1, [(.int .u8 0)]⟩ false (.tmp 8) (.tmp 14))⟩,
     ⟨(some 6), none, .plain (.mov (.tmp 15))⟩])
  .ret)))⟩
/-- fettle/fettleref01.Same -/
def a18 : AFunc := ⟨2, [.tmp 4],
  (.both (.seq [⟨(some 4), none, .plain (.mov (.const (.bool false)))⟩])
  (.both (.seq [⟨(some 5), none, .plain (.mov (.tmp 0))⟩,
     ⟨(some 6), none, .plain (.conv .b2s (.tmp 5))⟩,
     ⟨(some 7), none, .plain (.mov (.tmp 1))⟩,
     ⟨(some 8), none, .plain (.conv .b2s (.tmp 7))⟩,
     ⟨(some 9), none, .plain (.bin .eql (.tmp 6) (.tmp 8))⟩,
     ⟨(some 4), none, .plain (.mov (.tmp 9))⟩])
  .ret))⟩
/-- fettle/fettleref01.In -/
def a30 : AFunc := ⟨3, [.tmp 6],
  (.both (.seq [⟨(some 6), none, .plain (.mov (.const (.bool false)))⟩])
  (.both (.seq [⟨(some 7), none, .plain (.mov (.tmp 1))⟩,
     ⟨(some 8), none, .plain (.bin .geq (.tmp 7) (.const (.int .i64 0)))⟩,
     ⟨(some 9), none, .plain (.mov (.tmp 8))⟩,
     ⟨(some 10), (some (9, true)), .plain (.mov (.tmp 2))⟩,
     ⟨(some 11), (some (9, true)), .plain (.bin .geq (.tmp 10) (.const (.int .i64 0)))⟩,
     ⟨(some 12), none, .plain (.pick (.tmp 9) (.tmp 11) (.const (.bool false)))⟩,
     ⟨(some 13), none, .plain (.mov (.tmp 12))⟩,
     ⟨(some 14), (some (13, true)), .plain (.mov (.tmp 1))⟩,
     ⟨(some 15), (some (13, true)), .plain (.mov (.tmp 0))⟩,
     ⟨(some 16), (some (13, true)), .plain (.len .sl (.tmp 15))⟩,
     ⟨(some 17), (some (13, true)), .plain (.bin .leq (.tmp 14) (.tmp 16))⟩,
     ⟨(some 18), none, .plain (.pick (.tmp 13) (.tmp 17) (.const (.bool false)))⟩,
     ⟨(some 19), none, .plain (.mov (.tmp 18))⟩,
     ⟨(some 20), (some (19, true)), .plain (.mov (.tmp 0))⟩,
     ⟨(some 21), (some (19, true)), .plain (.len .sl (.tmp 20))⟩,
     ⟨(some 22), (some (19, true)), .plain (.mov (.tmp 1))⟩,
     ⟨(some 23), (some (19, true)), .plain (.bin .sub (.tmp 21) (.tmp 22))⟩,
     ⟨(some 24), (some (19, true)), .plain (.mov (.tmp 2))⟩,
     ⟨(some 25), (some (19, true)), .plain (.bin .geq (.tmp 23) (.tmp 24))⟩,
     ⟨(some 26), none, .plain (.pick (.tmp 19) (.tmp 25) (.const (.bool false)))⟩,
     ⟨(some 6), none, .plain (.mov (.tmp 26))⟩])
  .ret))⟩
/-- fettle/fettlelaw13.chained -/
def a35 : AFunc := ⟨0, [.tmp 0],
  (.both (.seq [⟨(some 0), none, .plain (.mov (.const (.bool false)))⟩])
  (.both (.seq [⟨(some 6), none, .plain (.build (.str [(.int .i64 0), (.int .i64 0), (.int .i64 0)] [(0, 1), (1, 1), (2, 1)]) [(0, (.const (.int .i64 12))), (1, (.const (.int .i64 8))), (2, (.const (.int .i64 40)))])⟩,
     ⟨(some 7), none, .plain (.build (.str [(.int .i64 0), (.int .i64 0), (.int .i64 0)] [(0, 1), (1, 1), (2, 1)]) [(0, (.const (.int .i64 5))), (1, (.const (.int .i64 64))), (2, (.const (.int .i64 32)))])⟩,
     ⟨(some 8), none, .plain (.buildSlice ⟨3, 24, [(.int .i64 0), (.int .i64 0), (.int .i64 0)]⟩ 2 [(0, (.tmp 6)), (1, (.tmp 7))])⟩,
     ⟨(some 9), none, .plain (.build (.str [(.int .i64 0), (.slice none 0 0), (.slice none 0 0)] [(0, 1), (1, 1), (2, 1)]) [(0, (.const (.int .i64 0))), (1, (.tmp 8))])⟩,
     ⟨(some 10), none, .plain (.build (.str [(.int .i64 0), (.int .i64 0), (.int .i64 0)] [(0, 1), (1, 1), (2, 1)]) [(0, (.const (.int .i64 11))), (1, (.const (.int .i64 1))), (2, (.const (.int .i64 10)))])⟩,
     ⟨(some 11), none, .plain (.buildSlice ⟨3, 24, [(.int .i64 0), (.int .i64 0), (.int .i64 0)]⟩ 1 [(0, (.tmp 10))])⟩,
     ⟨(some 12), none, .plain (.build (.str [(.int .i64 0), (.slice none 0 0), (.slice none 0 0)] [(0, 1), (1, 1), (2, 1)]) [(0, (.const (.int .i64 64))), (1, (.tmp 11))])⟩,
     ⟨(some 13), none, .plain (.buildSlice ⟨3, 56, [(.int .i64 0), (.slice none 0 0), (.slice none 0 0)]⟩ 2 [(0, (.tmp 9)), (1, (.tmp 12))])⟩,
     ⟨(some 14), none, .call 38 [(.const (.int .i64 100)), (.tmp 13)]⟩,
     ⟨(some 5), none, .plain (.mov (.tmp 14))⟩,
     ⟨(some 15), none, .plain (.extract (.tmp 5) 0)⟩,
     ⟨(some 16), none, .plain (.extract (.tmp 5) 1)⟩,
     ⟨(some 1), none, .plain (.mov (.tmp 15))⟩,
     ⟨(some 2), none, .plain (.mov (.tmp 16))⟩])
  (.both (.seq [⟨(some 18), none, .plain (.mov (.tmp 1))⟩,
     ⟨(some 19), none, .plain (.iface 95 (.tmp 18))⟩,
     ⟨(some 20), none, .call 39 [(.tmp 19)]⟩,
     ⟨(some 17), none, .plain (.mov (.tmp 20))⟩,
     ⟨(some 21), none, .plain (.extract (.tmp 17) 0)⟩,
     ⟨(some 22), none, .plain (.extract (.tmp 17) 1)⟩,
     ⟨(some 3), none, .plain (.alloc [(.slice none 0 0), (.slice none 0 0), (.int .i64 0), (.int .i64 0), (.bool false)])⟩,
     ⟨none, none, .plain (.store 5 (.tmp 3) (.tmp 21))⟩,
     ⟨(some 4), none, .plain (.mov (.tmp 22))⟩])
  (.both (.seq [⟨(some 23), none, .plain (.mov (.tmp 4))⟩,
     ⟨(some 24), none, .plain (.bin .eql (.tmp 23) (.const (.int .i64 0)))⟩,
     ⟨(some 25), none, .plain (.mov (.tmp 24))⟩,
     ⟨(some 26), (some (25, true)), .plain (.faddr 0 (.tmp 3))⟩,
     ⟨(some 27), (some (25, true)), .plain (.load none (.tmp 26))⟩,
     ⟨(some 28), (some (25, true)), .plain (.len .sl (.tmp 27))⟩,
     ⟨(some 29), (some (25, true)), .plain (.bin .eql (.tmp 28) (.const (.int .i64 2)))⟩,
     ⟨(some 30), none, .plain (.pick (.tmp 25) (.tmp 29) (.const (.bool false)))⟩,
     ⟨(some 31), none, .plain (.mov (.tmp 30))⟩,
     ⟨(some 32), (some (31, true)), .plain (.faddr 0 (.tmp 3))⟩,
     ⟨(some 33), (some (31, true)), .plain (.load none (.tmp 32))⟩,
     ⟨(some 34), (some (31, true)), .plain (.iaddr none 4 (.tmp 33) (.const (.int .i64 1)))⟩,
     ⟨(some 35), (some (31, true)), .plain (.faddr 3 (.tmp 34))⟩,
     ⟨(some 36), (some (31, true)), .plain (.load none (.tmp 35))⟩,
     ⟨(some 37), (some (31, true)), .plain (.bin .eql (.tmp 36) (.const (.int .i64 4)))⟩,
     ⟨(some 38), none, .plain (.pick (.tmp 31) (.tmp 37) (.const (.bool false)))⟩,
     ⟨(some 39), none, .plain (.mov (.tmp 38))⟩,
     ⟨(some 40), (some (39, true)), .plain (.faddr 0 (.tmp 3))⟩,
     ⟨(some 41), (some (39, true)), .plain (.load none (.tmp 40))⟩,
     ⟨(some 42), (some (39, true)), .plain (.iaddr none 4 (.tmp 41) (.const (.int .i64 1)))⟩,
     ⟨(some 43), (some (39, true)), .plain (.faddr 0 (.tmp 42))⟩,
     ⟨(some 44), (some (39, true)), .plain (.load (some 2) (.tmp 43))⟩,
     ⟨(some 45), (some (39, true)), .plain (.build (.str [(.int .i64 0), (.int .i64 0)] [(0, 1), (1, 1)]) [(0, (.const (.int .i64 33280))), (1, (.const (.int .i64 38400)))])⟩,
     ⟨(some 46), (some (39, true)), .plain (.eqA false [(0, .int), (1, .int)] (.tmp 44) (.tmp 45))⟩,
     ⟨(some 47), none, .plain (.pick (.tmp 39) (.tmp 46) (.const (.bool false)))⟩,
     ⟨(some 0), none, .plain (.mov (.tmp 47))⟩])
  .ret))))⟩
/-- fettle/mbr.Entries -/
def a36 : AFunc := ⟨1, [.tmp 2, .tmp 3],
  (.both (.seq [⟨(some 2), none, .plain (.mov (.const (.slice none 0 0)))⟩,
     ⟨(some 3), none, .plain (.mov (.const (.int .i64 0)))⟩])
  (.both (.both (.seq [⟨(some 12), none, .plain (.mov (.tmp 0))⟩,
      ⟨(some 13), none, .plain (.len .sl (.tmp 12))⟩,
      ⟨(some 14), none, .plain (.bin .neq (.tmp 13) (.const (.int .i64 512)))⟩])
   (.cond (.tmp 14)
    (.both (.seq [⟨(some 2), none, .plain (.mov (.const (.slice none 0 0)))⟩,
       ⟨(some 3), none, .plain (.mov (.const (.int .i64 4)))⟩])
    .ret)
    .skip))
  (.both (.both (.seq [⟨(some 15), none, .plain (.mov (.tmp 0))⟩,
      ⟨(some 16), none, .plain (.iaddr none 1 (.tmp 15) (.const (.int .i64 510)))⟩,
      ⟨(some 17), none, .plain (.load none (.tmp 16))⟩,
      ⟨(some 18), none, .plain (.bin .neq (.tmp 17) (.const (.int .u8 85)))⟩,
      ⟨(some 19), none, .plain (.mov (.tmp 18))⟩,
      ⟨(some 20), (some (19, false)), .plain (.mov (.tmp 0))⟩,
      ⟨(some 21), (some (19, false)), .plain (.iaddr none 1 (.tmp 20) (.const (.int .i64 511)))⟩,
      ⟨(some 22), (some (19, false)), .plain (.load none (.tmp 21))⟩,
      ⟨(some 23), (some (19, false)), .plain (.bin .neq (.tmp 22) (.const (.int .u8 170)))⟩,
      ⟨(some 24), none, .plain (.pick (.tmp 19) (.const (.bool true)) (.tmp 23))⟩])
   (.cond (.tmp 24)
    (.both (.seq [⟨(some 2), none, .plain (.mov (.const (.slice none 0 0)))⟩,
       ⟨(some 3), none, .plain (.mov (.const (.int .i64 10)))⟩])
    .ret)
    .skip))
  (.both (.seq [⟨(some 4), none, .plain (.mov (.const (.slice none 0 0)))⟩])
  (.both (.both (.seq [⟨(some 25), none, .plain (.mov (.const (.int .i64 0)))⟩])
   (.block 0 (.loop (.both (.seq [⟨(some 26), none, .plain (.bin .lss (.tmp 25) (.const (.int .i64 4)))⟩])
     (.both (.cond (.tmp 26)
       .skip
       (.exit 0))
     (.both (.block 1 (.both (.seq [⟨(some 27), none, .plain (.mov (.tmp 25))⟩,
          ⟨(some 5), none, .plain (.mov (.tmp 27))⟩])
       (.both (.seq [⟨(some 28), none, .plain (.mov (.tmp 5))⟩,
          ⟨(some 29), none, .call 65 [(.tmp 28)]⟩,
          ⟨(some 6), none, .plain (.mov (.tmp 29))⟩])
       (.both (.both (.seq [⟨(some 30), none, .plain (.mov (.tmp 0))⟩,
           ⟨(some 31), none, .plain (.mov (.tmp 6))⟩,
           ⟨(some 32), none, .plain (.iaddr none 1 (.tmp 30) (.tmp 31))⟩,
           ⟨(some 33), none, .plain (.load none (.tmp 32))⟩,
           ⟨(some 34), none, .plain (.bin .neq (.tmp 33) (.const (.int .u8 0)))⟩,
           ⟨(some 35), none, .plain (.mov (.tmp 34))⟩,
           ⟨(some 36), (some (35, true)), .plain (.mov (.tmp 0))⟩,
           ⟨(some 37), (some (35, true)), .plain (.mov (.tmp 6))⟩,
           ⟨(some 38), (some (35, true)), .plain (.iaddr none 1 (.tmp 36) (.tmp 37))⟩,
           ⟨(some 39), (some (35, true)), .plain (.load none (.tmp 38))⟩,
           ⟨(some 40), (some (35, true)), .plain (.bin .neq (.tmp 39) (.const (.int .u8 128)))⟩,
           ⟨(some 41), none, .plain (.pick (.tmp 35) (.tmp 40) (.const (.bool false)))⟩])
        (.cond (.tmp 41)
         (.both (.seq [⟨(some 2), none, .plain (.mov (.const (.slice none 0 0)))⟩,
            ⟨(some 3), none, .plain (.mov (.const (.int .i64 11)))⟩])
         .ret)
         .skip))
       (.both (.seq [⟨(some 43), none, .plain (.mov (.tmp 0))⟩,
          ⟨(some 44), none, .plain (.mov (.tmp 6))⟩,
          ⟨(some 45), none, .plain (.bin .add (.tmp 44) (.const (.int .i64 8)))⟩,
          ⟨(some 46), none, .call 54 [(.tmp 43), (.tmp 45)]⟩,
          ⟨(some 42), none, .plain (.mov (.tmp 46))⟩,
          ⟨(some 47), none, .plain (.extract (.tmp 42) 0)⟩,
          ⟨(some 48), none, .plain (.extract (.tmp 42) 1)⟩,
          ⟨(some 7), none, .plain (.mov (.tmp 47))⟩,
          ⟨(some 8), none, .plain (.mov (.tmp 48))⟩])
       (.both (.seq [⟨(some 50), none, .plain (.mov (.tmp 0))⟩,
          ⟨(some 51), none, .plain (.mov (.tmp 6))⟩,
          ⟨(some 52), none, .plain (.bin .add (.tmp 51) (.const (.int .i64 12)))⟩,
          ⟨(some 53), none, .call 54 [(.tmp 50), (.tmp 52)]⟩,
          ⟨(some 49), none, .plain (.mov (.tmp 53))⟩,
          ⟨(some 54), none, .plain (.extract (.tmp 49) 0)⟩,
          ⟨(some 55), none, .plain (.extract (.tmp 49) 1)⟩,
          ⟨(some 9), none, .plain (.mov (.tmp 54))⟩,
          ⟨(some 10), none, .plain (.mov (.tmp 55))⟩])
       (.both (.seq [⟨(some 56), none, .plain (.mov (.tmp 0))⟩,
          ⟨(some 57), none, .plain (.mov (.tmp 6))⟩,
          ⟨(some 58), none, .plain (.bin .add (.tmp 57) (.const (.int .i64 4)))⟩,
          ⟨(some 59), none, .plain (.iaddr none 1 (.tmp 56) (.tmp 58))⟩,
          ⟨(some 60), none, .plain (.load none (.tmp 59))⟩,
          ⟨(some 61), none, .plain (.conv (.int .i64) (.tmp 60))⟩,
          ⟨(some 62), none, .plain (.mov (.tmp 7))⟩,
          ⟨(some 63), none, .plain (.conv (.int .i64) (.tmp 62))⟩,
          ⟨(some 64), none, .plain (.mov (.tmp 9))⟩,
          ⟨(some 65), none, .plain (.conv (.int .i64) (.tmp 64))⟩,
          ⟨(some 66), none, .plain (.build (.str [(.int .i64 0), (.int .i64 0), (.int .i64 0)] [(0, 1), (1, 1), (2, 1)]) [(0, (.tmp 61)), (1, (.tmp 63)), (2, (.tmp 65))])⟩,
          ⟨(some 11), none, .plain (.alloc [(.int .i64 0), (.int .i64 0), (.int .i64 0)])⟩,
          ⟨none, none, .plain (.store 3 (.tmp 11) (.tmp 66))⟩])
       (.both (.both (.seq [⟨(some 67), none, .plain (.faddr 0 (.tmp 11))⟩,
           ⟨(some 68), none, .plain (.load none (.tmp 67))⟩,
           ⟨(some 69), none, .plain (.bin .eql (.tmp 68) (.const (.int .i64 0)))⟩,
           ⟨(some 70), none, .plain (.faddr 2 (.tmp 11))⟩,
           ⟨(some 71), none, .plain (.load none (.tmp 70))⟩,
           ⟨(some 72), none, .plain (.bin .eql (.tmp 71) (.const (.int .i64 0)))⟩,
           ⟨(some 73), none, .plain (.eqB true (.tmp 69) (.tmp 72))⟩])
        (.cond (.tmp 73)
         (.both (.seq [⟨(some 2), none, .plain (.mov (.const (.slice none 0 0)))⟩,
            ⟨(some 3), none, .plain (.mov (.const (.int .i64 11)))⟩])
         .ret)
         .skip))
       (.seq [⟨(some 74), none, .plain (.mov (.tmp 4))⟩,
         ⟨(some 75), none, .plain (.load (some 3) (.tmp 11))⟩,
         ⟨(some 76), none, .plain (.buildSlice ⟨3, 24, [(.int .i64 0), (.int .i64 0), (.int .i64 0)]⟩ 1 [(0, (.tmp 75))])⟩,
         ⟨(some 77), none, .plain (.append ⟨3, 24, [(.int .i64 0), (.int .i64 0), (.int .i64 0)]⟩ false (.tmp 74) (.tmp 76))⟩,
         ⟨(some 4), none, .plain (.mov (.tmp 77))⟩])))))))))
     (.seq [⟨(some 78), none, .plain (.bin .add (.tmp 25) (.const (.int .i64 1)))⟩,
       ⟨(some 25), none, .plain (.mov (.tmp 78))⟩])))))))
  (.both (.seq [⟨(some 79), none, .plain (.mov (.tmp 4))⟩,
     ⟨(some 2), none, .plain (.mov (.tmp 79))⟩,
     ⟨(some 3), none, .plain (.mov (.const (.int .i64 0)))⟩])
  .ret))))))⟩
/-- fettle/fettleref13.Entries -/
def a37 : AFunc := ⟨1, [.tmp 2, .tmp 3],
  (.both (.seq [⟨(some 2), none, .plain (.mov (.const (.slice none 0 0)))⟩,
     ⟨(some 3), none, .plain (.mov (.const (.int .i64 0)))⟩])
  (.both (.both (.seq [⟨(some 8), none, .plain (.mov (.tmp 0))⟩,
      ⟨(some 9), none, .plain (.len .sl (.tmp 8))⟩,
      ⟨(some 10), none, .plain (.bin .neq (.tmp 9) (.const (.int .i64 512)))⟩])
   (.cond (.tmp 10)
    (.both (.seq [⟨(some 2), none, .plain (.mov (.const (.slice none 0 0)))⟩,
       ⟨(some 3), none, .plain (.mov (.const (.int .i64 4)))⟩])
    .ret)
    .skip))
  (.both (.both (.seq [⟨(some 11), none, .plain (.mov (.tmp 0))⟩,
      ⟨(some 12), none, .plain (.iaddr none 1 (.tmp 11) (.const (.int .i64 510)))⟩,
      ⟨(some 13), none, .plain (.load none (.tmp 12))⟩,
      ⟨(some 14), none, .plain (.bin .neq (.tmp 13) (.const (.int .u8 85)))⟩,
      ⟨(some 15), none, .plain (.mov (.tmp 14))⟩,
      ⟨(some 16), (some (15, false)), .plain (.mov (.tmp 0))⟩,
      ⟨(some 17), (some (15, false)), .plain (.iaddr none 1 (.tmp 16) (.const (.int .i64 511)))⟩,
      ⟨(some 18), (some (15, false)), .plain (.load none (.tmp 17))⟩,
      ⟨(some 19), (some (15, false)), .plain (.bin .neq (.tmp 18) (.const (.int .u8 170)))⟩,
      ⟨(some 20), none, .plain (.pick (.tmp 15) (.const (.bool true)) (.tmp 19))⟩])
   (.cond (.tmp 20)
    (.both (.seq [⟨(some 2), none, .plain (.mov (.const (.slice none 0 0)))⟩,
       ⟨(some 3), none, .plain (.mov (.const (.int .i64 10)))⟩])
    .ret)
    .skip))
  (.both (.seq [⟨(some 4), none, .plain (.mov (.const (.slice none 0 0)))⟩])
  (.both (.both (.seq [⟨(some 5), none, .plain (.mov (.const (.int .i64 0)))⟩])
   (.block 0 (.loop (.both (.both (.seq [⟨(some 21), none, .plain (.mov (.tmp 5))⟩,
         ⟨(some 22), none, .plain (.bin .lss (.tmp 21) (.const (.int .i64 4)))⟩])
      (.cond (.tmp 22)
       .skip
       (.exit 0)))
     (.both (.block 1 (.both (.seq [⟨(some 25), none, .plain (.mov (.tmp 5))⟩,
          ⟨(some 26), none, .plain (.bin .mul (.const (.int .i64 16)) (.tmp 25))⟩,
          ⟨(some 27), none, .plain (.bin .add (.const (.int .i64 446)) (.tmp 26))⟩,
          ⟨(some 6), none, .plain (.mov (.tmp 27))⟩])
       (.both (.draw 1 [⟨0, .pure, 0, ⟨(some 28), none, .plain (.mov (.tmp 0))⟩, [], []⟩,
          ⟨1, .pure, 0, ⟨(some 29), none, .plain (.mov (.tmp 6))⟩, [], []⟩,
          ⟨2, .pure, 0, ⟨(some 30), none, .plain (.bin .add (.tmp 29) (.const (.int .i64 4)))⟩, [], []⟩,
          ⟨3, .pure, 0, ⟨(some 31), none, .plain (.iaddr none 1 (.tmp 28) (.tmp 30))⟩, [], []⟩,
          ⟨4, .read, 0, ⟨(some 32), none, .plain (.load none (.tmp 31))⟩, [], []⟩,
          ⟨5, .pure, 0, ⟨(some 33), none, .plain (.conv (.int .i64) (.tmp 32))⟩, [], []⟩,
          ⟨6, .pure, 0, ⟨(some 34), none, .plain (.mov (.tmp 0))⟩, [], []⟩,
          ⟨7, .pure, 0, ⟨(some 35), none, .plain (.mov (.tmp 6))⟩, [], []⟩,
          ⟨8, .pure, 0, ⟨(some 36), none, .plain (.bin .add (.tmp 35) (.const (.int .i64 8)))⟩, [], []⟩,
          ⟨10, .pure, 0, ⟨(some 38), none, .plain (.mov (.tmp 0))⟩, [], []⟩,
          ⟨11, .pure, 0, ⟨(some 39), none, .plain (.mov (.tmp 6))⟩, [], []⟩,
          ⟨12, .pure, 0, ⟨(some 40), none, .plain (.bin .add (.tmp 39) (.const (.int .i64 12)))⟩, [], []⟩,
          ⟨9, .chain, 0, ⟨(some 37), none, .call 58 [(.tmp 34), (.tmp 36), (.const (.int .i64 4))]⟩, [4], [0]⟩,
          ⟨13, .chain, 0, ⟨(some 41), none, .call 58 [(.tmp 38), (.tmp 40), (.const (.int .i64 4))]⟩, [4], [0]⟩,
          ⟨14, .pure, 0, ⟨(some 42), none, .plain (.build (.str [(.int .i64 0), (.int .i64 0), (.int .i64 0)] [(0, 1), (1, 1), (2, 1)]) [(0, (.tmp 33)), (1, (.tmp 37)), (2, (.tmp 41))])⟩, [], []⟩,
          ⟨15, .fresh, 0, ⟨(some 7), none, .plain (.alloc [(.int .i64 0), (.int .i64 0), (.int .i64 0)])⟩, [], []⟩,
          ⟨16, .chain, 0, ⟨none, none, .plain (.store 3 (.tmp 7) (.tmp 42))⟩, [], []⟩])
       (.both (.both (.seq [⟨(some 43), none, .plain (.mov (.tmp 0))⟩,
           ⟨(some 44), none, .plain (.mov (.tmp 6))⟩,
           ⟨(some 45), none, .plain (.iaddr none 1 (.tmp 43) (.tmp 44))⟩,
           ⟨(some 46), none, .plain (.load none (.tmp 45))⟩,
           ⟨(some 47), none, .plain (.bin .neq (.tmp 46) (.const (.int .u8 0)))⟩,
           ⟨(some 48), none, .plain (.mov (.tmp 47))⟩,
           ⟨(some 49), (some (48, true)), .plain (.mov (.tmp 0))⟩,
           ⟨(some 50), (some (48, true)), .plain (.mov (.tmp 6))⟩,
           ⟨(some 51), (some (48, true)), .plain (.iaddr none 1 (.tmp 49) (.tmp 50))⟩,
           ⟨(some 52), (some (48, true)), .plain (.load none (.tmp 51))⟩,
           ⟨(some 53), (some (48, true)), .plain (.bin .neq (.tmp 52) (.const (.int .u8 128)))⟩,
           ⟨(some 54), none, .plain (.pick (.tmp 48) (.tmp 53) (.const (.bool false)))⟩,
           ⟨(some 55), none, .plain (.mov (.tmp 54))⟩,
           ⟨(some 56), (some (55, false)), .plain (.faddr 0 (.tmp 7))⟩,
           ⟨(some 57), (some (55, false)), .plain (.load none (.tmp 56))⟩,
           ⟨(some 58), (some (55, false)), .plain (.bin .eql (.tmp 57) (.const (.int .i64 0)))⟩,
           ⟨(some 59), (some (55, false)), .plain (.faddr 2 (.tmp 7))⟩,
           ⟨(some 60), (some (55, false)), .plain (.load none (.tmp 59))⟩,
           ⟨(some 61), (some (55, false)), .plain (.bin .eql (.tmp 60) (.const (.int .i64 0)))⟩,
           ⟨(some 62), (some (55, false)), .plain (.eqB true (.tmp 58) (.tmp 61))⟩,
           ⟨(some 63), none, .plain (.pick (.tmp 55) (.const (.bool true)) (.tmp 62))⟩])
        (.cond (.tmp 63)
         (.both (.seq [⟨(some 2), none, .plain (.mov (.const (.slice none 0 0)))⟩,
            ⟨(some 3), none, .plain (.mov (.const (.int .i64 11)))⟩])
         .ret)
         .skip))
       (.seq [⟨(some 64), none, .plain (.mov (.tmp 4))⟩,
         ⟨(some 65), none, .plain (.load (some 3) (.tmp 7))⟩,
         ⟨(some 66), none, .plain (.buildSlice ⟨3, 24, [(.int .i64 0), (.int .i64 0), (.int .i64 0)]⟩ 1 [(0, (.tmp 65))])⟩,
         ⟨(some 67), none, .plain (.append ⟨3, 24, [(.int .i64 0), (.int .i64 0), (.int .i64 0)]⟩ false (.tmp 64) (.tmp 66))⟩,
         ⟨(some 4), none, .plain (.mov (.tmp 67))⟩])))))
     (.seq [⟨(some 23), none, .plain (.mov (.tmp 5))⟩,
       ⟨(some 24), none, .plain (.bin .add (.tmp 23) (.const (.int .i64 1)))⟩,
       ⟨(some 5), none, .plain (.mov (.tmp 24))⟩]))))))
  (.both (.seq [⟨(some 68), none, .plain (.mov (.tmp 4))⟩,
     ⟨(some 2), none, .plain (.mov (.tmp 68))⟩,
     ⟨(some 3), none, .plain (.mov (.const (.int .i64 0)))⟩])
  .ret))))))⟩
/-- fettle/fettlelaw13.disk -/
def a38 : AFunc := ⟨2, [.tmp 4, .tmp 5],
  (.both (.seq [⟨(some 4), none, .plain (.mov (.const (.slice none 0 0)))⟩,
     ⟨(some 5), none, .plain (.mov (.const (.bool false)))⟩])
  (.both (.seq [⟨(some 13), none, .plain (.mov (.tmp 0))⟩,
     ⟨(some 14), none, .plain (.conv (.int .u64) (.tmp 13))⟩,
     ⟨(some 15), none, .plain (.bin .rem (.tmp 14) (.const (.int .u64 200)))⟩,
     ⟨(some 16), none, .plain (.conv (.int .i64) (.tmp 15))⟩,
     ⟨(some 6), none, .plain (.mov (.tmp 16))⟩])
  (.both (.both (.seq [⟨(some 17), none, .plain (.mov (.tmp 1))⟩,
      ⟨(some 18), none, .plain (.len .sl (.tmp 17))⟩,
      ⟨(some 19), none, .plain (.bin .gtr (.tmp 18) (.const (.int .i64 40)))⟩])
   (.cond (.tmp 19)
    (.both (.seq [⟨(some 4), none, .plain (.mov (.const (.slice none 0 0)))⟩,
       ⟨(some 5), none, .plain (.mov (.const (.bool false)))⟩])
    .ret)
    .skip))
  (.both (.seq [⟨(some 20), none, .plain (.mov (.tmp 6))⟩,
     ⟨(some 21), none, .plain (.bin .mul (.const (.int .i64 512)) (.tmp 20))⟩,
     ⟨(some 22), none, .call 66 [(.tmp 21)]⟩,
     ⟨(some 7), none, .plain (.mov (.tmp 22))⟩])
  (.both (.both (.seq [⟨(some 8), none, .plain (.mov (.const (.int .i64 0)))⟩])
   (.block 0 (.loop (.both (.both (.seq [⟨(some 23), none, .plain (.mov (.tmp 8))⟩,
         ⟨(some 24), none, .plain (.mov (.tmp 1))⟩,
         ⟨(some 25), none, .plain (.len .sl (.tmp 24))⟩,
         ⟨(some 26), none, .plain (.bin .lss (.tmp 23) (.tmp 25))⟩,
         ⟨(some 27), none, .plain (.mov (.tmp 26))⟩,
         ⟨(some 28), (some (27, true)), .plain (.mov (.tmp 6))⟩,
         ⟨(some 29), (some (27, true)), .plain (.bin .gtr (.tmp 28) (.const (.int .i64 0)))⟩,
         ⟨(some 30), none, .plain (.pick (.tmp 27) (.tmp 29) (.const (.bool false)))⟩])
      (.cond (.tmp 30)
       .skip
       (.exit 0)))
     (.both (.block 1 (.both (.seq [⟨(some 33), none, .plain (.mov (.tmp 1))⟩,
          ⟨(some 34), none, .plain (.mov (.tmp 8))⟩,
          ⟨(some 35), none, .plain (.iaddr none 3 (.tmp 33) (.tmp 34))⟩,
          ⟨(some 36), none, .plain (.faddr 0 (.tmp 35))⟩,
          ⟨(some 37), none, .plain (.load none (.tmp 36))⟩,
          ⟨(some 38), none, .plain (.conv (.int .u64) (.tmp 37))⟩,
          ⟨(some 39), none, .plain (.mov (.tmp 6))⟩,
          ⟨(some 40), none, .plain (.conv (.int .u64) (.tmp 39))⟩,
          ⟨(some 41), none, .plain (.bin .rem (.tmp 38) (.tmp 40))⟩,
          ⟨(some 42), none, .plain (.conv (.int .i64) (.tmp 41))⟩,
          ⟨(some 43), none, .plain (.bin .mul (.const (.int .i64 512)) (.tmp 42))⟩,
          ⟨(some 9), none, .plain (.mov (.tmp 43))⟩])
       (.both (.both (.seq [⟨(some 10), none, .plain (.mov (.const (.int .i64 0)))⟩])
        (.block 2 (.loop (.both (.both (.seq [⟨(some 44), none, .plain (.mov (.tmp 10))⟩,
              ⟨(some 45), none, .plain (.mov (.tmp 1))⟩,
              ⟨(some 46), none, .plain (.mov (.tmp 8))⟩,
              ⟨(some 47), none, .plain (.iaddr none 3 (.tmp 45) (.tmp 46))⟩,
              ⟨(some 48), none, .plain (.faddr 1 (.tmp 47))⟩,
              ⟨(some 49), none, .plain (.load none (.tmp 48))⟩,
              ⟨(some 50), none, .plain (.len .sl (.tmp 49))⟩,
              ⟨(some 51), none, .plain (.bin .lss (.tmp 44) (.tmp 50))⟩,
              ⟨(some 52), none, .plain (.mov (.tmp 51))⟩,
              ⟨(some 53), (some (52, true)), .plain (.mov (.tmp 10))⟩,
              ⟨(some 54), (some (52, true)), .plain (.bin .lss (.tmp 53) (.const (.int .i64 4)))⟩,
              ⟨(some 55), none, .plain (.pick (.tmp 52) (.tmp 54) (.const (.bool false)))⟩])
           (.cond (.tmp 55)
            .skip
            (.exit 2)))
          (.both (.block 3 (.both (.seq [⟨(some 58), none, .plain (.mov (.tmp 1))⟩,
               ⟨(some 59), none, .plain (.mov (.tmp 8))⟩,
               ⟨(some 60), none, .plain (.iaddr none 3 (.tmp 58) (.tmp 59))⟩,
               ⟨(some 61), none, .plain (.faddr 1 (.tmp 60))⟩,
               ⟨(some 62), none, .plain (.load none (.tmp 61))⟩,
               ⟨(some 63), none, .plain (.mov (.tmp 10))⟩,
               ⟨(some 64), none, .plain (.iaddr none 3 (.tmp 62) (.tmp 63))⟩,
               ⟨(some 65), none, .plain (.load (some 3) (.tmp 64))⟩,
               ⟨(some 11), none, .plain (.alloc [(.int .i64 0), (.int .i64 0), (.int .i64 0)])⟩,
               ⟨none, none, .plain (.store 3 (.tmp 11) (.tmp 65))⟩])
            (.both (.seq [⟨(some 66), none, .call 66 [(.const (.int .i64 4))]⟩,
               ⟨(some 12), none, .plain (.mov (.tmp 66))⟩])
            (.both (.both (.seq [⟨(some 67), none, .plain (.mov (.tmp 10))⟩,
                ⟨(some 68), none, .plain (.mov (.tmp 1))⟩,
                ⟨(some 69), none, .plain (.mov (.tmp 8))⟩,
                ⟨(some 70), none, .plain (.iaddr none 3 (.tmp 68) (.tmp 69))⟩,
                ⟨(some 71), none, .plain (.faddr 2 (.tmp 70))⟩,
                ⟨(some 72), none, .plain (.load none (.tmp 71))⟩,
                ⟨(some 73), none, .plain (.len .sl (.tmp 72))⟩,
                ⟨(some 74), none, .plain (.bin .lss (.tmp 67) (.tmp 73))⟩])
             (.cond (.tmp 74)
              (.seq [⟨(some 75), none, .plain (.mov (.tmp 12))⟩,
                ⟨(some 76), none, .plain (.mov (.tmp 1))⟩,
                ⟨(some 77), none, .plain (.mov (.tmp 8))⟩,
                ⟨(some 78), none, .plain (.iaddr none 3 (.tmp 76) (.tmp 77))⟩,
                ⟨(some 79), none, .plain (.faddr 2 (.tmp 78))⟩,
                ⟨(some 80), none, .plain (.load none (.tmp 79))⟩,
                ⟨(some 81), none, .plain (.mov (.tmp 10))⟩,
                ⟨(some 82), none, .plain (.iaddr none 1 (.tmp 80) (.tmp 81))⟩,
                ⟨(some 83), none, .plain (.load none (.tmp 82))⟩,
                ⟨(some 84), none, .plain (.iaddr none 1 (.tmp 75) (.const (.int .i64 0)))⟩,
                ⟨none, none, .plain (.store 1 (.tmp 84) (.tmp 83))⟩])
              .skip))
            (.both (.seq [⟨(some 85), none, .plain (.mov (.tmp 12))⟩,
               ⟨(some 86), none, .plain (.faddr 0 (.tmp 11))⟩,
               ⟨(some 87), none, .plain (.load none (.tmp 86))⟩,
               ⟨(some 88), none, .plain (.conv (.int .u8) (.tmp 87))⟩,
               ⟨(some 89), none, .plain (.buildSlice ⟨1, 1, [(.int .u8 0)]⟩ 4 [(0, (.tmp 88)), (1, (.const (.int .u8 0))), (2, (.const (.int .u8 0))), (3, (.const (.int .u8 0)))])⟩,
               ⟨(some 90), none, .plain (.append ⟨1, 1, [(.int .u8 0)]⟩ false (.tmp 85) (.tmp 89))⟩,
               ⟨(some 12), none, .plain (.mov (.tmp 90))⟩])
            (.both (.seq [⟨(some 91), none, .plain (.mov (.tmp 12))⟩,
               ⟨(some 92), none, .plain (.faddr 1 (.tmp 11))⟩,
               ⟨(some 93), none, .plain (.load none (.tmp 92))⟩,
               ⟨(some 94), none, .plain (.conv (.int .u64) (.tmp 93))⟩,
               ⟨(some 95), none, .call 44 [(.tmp 94), (.const (.int .i64 4))]⟩,
               ⟨(some 96), none, .plain (.append ⟨1, 1, [(.int .u8 0)]⟩ false (.tmp 91) (.tmp 95))⟩,
               ⟨(some 12), none, .plain (.mov (.tmp 96))⟩])
            (.both (.seq [⟨(some 97), none, .plain (.mov (.tmp 12))⟩,
               ⟨(some 98), none, .plain (.faddr 2 (.tmp 11))⟩,
               ⟨(some 99), none, .plain (.load none (.tmp 98))⟩,
               ⟨(some 100), none, .plain (.conv (.int .u64) (.tmp 99))⟩,
               ⟨(some 101), none, .call 44 [(.tmp 100), (.const (.int .i64 4))]⟩,
               ⟨(some 102), none, .plain (.append ⟨1, 1, [(.int .u8 0)]⟩ false (.tmp 97) (.tmp 101))⟩,
               ⟨(some 12), none, .plain (.mov (.tmp 102))⟩])
            (.seq [⟨(some 103), none, .plain (.mov (.tmp 7))⟩,
              ⟨(some 104), none, .plain (.mov (.tmp 9))⟩,
              ⟨(some 105), none, .plain (.bin .add (.tmp 104) (.const (.int .i64 446)))⟩,
              ⟨(some 106), none, .plain (.mov (.tmp 10))⟩,
              ⟨(some 107), none, .plain (.bin .mul (.const (.int .i64 16)) (.tmp 106))⟩,
              ⟨(some 108), none, .plain (.bin .add (.tmp 105) (.tmp 107))⟩,
              ⟨(some 109), none, .plain (.mov (.tmp 12))⟩,
              ⟨(some 110), none, .call 43 [(.tmp 103), (.tmp 108), (.tmp 109)]⟩,
              ⟨(some 7), none, .plain (.mov (.tmp 110))⟩]))))))))
          (.seq [⟨(some 56), none, .plain (.mov (.tmp 10))⟩,
            ⟨(some 57), none, .plain (.bin .add (.tmp 56) (.const (.int .i64 1)))⟩,
            ⟨(some 10), none, .plain (.mov (.tmp 57))⟩]))))))
       (.seq [⟨(some 111), none, .plain (.mov (.tmp 7))⟩,
         ⟨(some 112), none, .plain (.mov (.tmp 9))⟩,
         ⟨(some 113), none, .plain (.bin .add (.tmp 112) (.const (.int .i64 510)))⟩,
         ⟨(some 114), none, .plain (.buildSlice ⟨1, 1, [(.int .u8 0)]⟩ 2 [(0, (.const (.int .u8 85))), (1, (.const (.int .u8 170)))])⟩,
         ⟨(some 115), none, .call 43 [(.tmp 111), (.tmp 113), (.tmp 114)]⟩,
         ⟨(some 7), none, .plain (.mov (.tmp 115))⟩]))))
     (.seq [⟨(some 31), none, .plain (.mov (.tmp 8))⟩,
       ⟨(some 32), none, .plain (.bin .add (.tmp 31) (.const (.int .i64 1)))⟩,
       ⟨(some 8), none, .plain (.mov (.tmp 32))⟩]))))))
  (.both (.seq [⟨(some 116), none, .plain (.mov (.tmp 7))⟩,
     ⟨(some 4), none, .plain (.mov (.tmp 116))⟩,
     ⟨(some 5), none, .plain (.mov (.const (.bool true)))⟩])
  .ret))))))⟩
/-- fettle/mbr.Parse -/
def a39 : AFunc := ⟨1, [.cell 2 (some 5), .tmp 3],
  (.both (.seq [⟨(some 2), none, .plain (.alloc [(.slice none 0 0), (.slice none 0 0), (.int .i64 0), (.int .i64 0), (.bool false)])⟩,
     ⟨(some 3), none, .plain (.mov (.const (.int .i64 0)))⟩])
  (.both (.both (.seq [⟨(some 19), none, .plain (.mov (.tmp 0))⟩,
      ⟨(some 20), none, .plain (.eqN false .iface true (.tmp 19) (.const .nilIface))⟩])
   (.cond (.tmp 20)
    (.both (.seq [⟨(some 21), none, .plain (.build (.str [(.slice none 0 0), (.slice none 0 0), (.int .i64 0), (.int .i64 0), (.bool false)] [(0, 1), (1, 1), (2, 2), (4, 1)]) [])⟩,
       ⟨none, none, .plain (.store 5 (.tmp 2) (.tmp 21))⟩,
       ⟨(some 3), none, .plain (.mov (.const (.int .i64 2)))⟩])
    .ret)
    .skip))
  (.both (.seq [⟨(some 22), none, .plain (.mov (.tmp 0))⟩,
     ⟨(some 23), none, .plain (.build (.str [.nilIface, (.slice none 0 0), (.slice none 0 0), (.int .i64 0), (.int .i64 0), (.bool false)] [(0, 1), (1, 5)]) [(0, (.tmp 22))])⟩,
     ⟨(some 24), none, .plain (.box (.tmp 23))⟩,
     ⟨(some 4), none, .plain (.mov (.tmp 24))⟩])
  (.both (.seq [⟨(some 26), none, .plain (.mov (.tmp 4))⟩,
     ⟨(some 27), none, .call 67 [(.tmp 26), (.const (.int .i64 0))]⟩,
     ⟨(some 25), none, .plain (.mov (.tmp 27))⟩,
     ⟨(some 28), none, .plain (.extract (.tmp 25) 0)⟩,
     ⟨(some 29), none, .plain (.extract (.tmp 25) 1)⟩,
     ⟨(some 5), none, .plain (.mov (.tmp 28))⟩,
     ⟨(some 6), none, .plain (.mov (.tmp 29))⟩])
  (.both (.both (.seq [⟨(some 30), none, .plain (.mov (.tmp 6))⟩,
      ⟨(some 31), none, .plain (.bin .neq (.tmp 30) (.const (.int .i64 0)))⟩])
   (.cond (.tmp 31)
    (.both (.seq [⟨(some 32), none, .plain (.build (.str [(.slice none 0 0), (.slice none 0 0), (.int .i64 0), (.int .i64 0), (.bool false)] [(0, 1), (1, 1), (2, 2), (4, 1)]) [])⟩,
       ⟨(some 33), none, .plain (.mov (.tmp 6))⟩,
       ⟨none, none, .plain (.store 5 (.tmp 2) (.tmp 32))⟩,
       ⟨(some 3), none, .plain (.mov (.tmp 33))⟩])
    .ret)
    .skip))
  (.both (.seq [⟨(some 35), none, .plain (.mov (.tmp 5))⟩,
     ⟨(some 36), none, .call 36 [(.tmp 35)]⟩,
     ⟨(some 34), none, .plain (.mov (.tmp 36))⟩,
     ⟨(some 37), none, .plain (.extract (.tmp 34) 0)⟩,
     ⟨(some 38), none, .plain (.extract (.tmp 34) 1)⟩,
     ⟨(some 7), none, .plain (.mov (.tmp 37))⟩,
     ⟨(some 6), none, .plain (.mov (.tmp 38))⟩])
  (.both (.both (.seq [⟨(some 39), none, .plain (.mov (.tmp 6))⟩,
      ⟨(some 40), none, .plain (.bin .neq (.tmp 39) (.const (.int .i64 0)))⟩])
   (.cond (.tmp 40)
    (.both (.seq [⟨(some 41), none, .plain (.build (.str [(.slice none 0 0), (.slice none 0 0), (.int .i64 0), (.int .i64 0), (.bool false)] [(0, 1), (1, 1), (2, 2), (4, 1)]) [])⟩,
       ⟨(some 42), none, .plain (.mov (.tmp 6))⟩,
       ⟨none, none, .plain (.store 5 (.tmp 2) (.tmp 41))⟩,
       ⟨(some 3), none, .plain (.mov (.tmp 42))⟩])
    .ret)
    .skip))
  (.both (.seq [⟨(some 8), none, .plain (.mov (.const (.int .i64 (-1))))⟩])
  (.both (.both (.seq [⟨(some 43), none, .plain (.mov (.tmp 7))⟩,
      ⟨(some 44), none, .plain (.len .sl (.tmp 43))⟩,
      ⟨(some 45), none, .plain (.mov (.const (.int .i64 0)))⟩])
   (.block 0 (.loop (.both (.seq [⟨(some 46), none, .plain (.bin .lss (.tmp 45) (.tmp 44))⟩])
     (.both (.cond (.tmp 46)
       .skip
       (.exit 0))
     (.both (.block 1 (.both (.seq [⟨(some 47), none, .plain (.mov (.tmp 45))⟩,
          ⟨(some 48), none, .plain (.iaddr none 3 (.tmp 43) (.tmp 45))⟩,
          ⟨(some 49), none, .plain (.load (some 3) (.tmp 48))⟩,
          ⟨(some 10), none, .plain (.alloc [(.int .i64 0), (.int .i64 0), (.int .i64 0)])⟩,
          ⟨(some 9), none, .plain (.mov (.tmp 47))⟩,
          ⟨none, none, .plain (.store 3 (.tmp 10) (.tmp 49))⟩])
       (.both (.seq [⟨(some 50), none, .plain (.faddr 0 (.tmp 10))⟩,
          ⟨(some 51), none, .plain (.load none (.tmp 50))⟩])
       (.block 2 (.both (.seq [⟨(some 61), none, .plain (.bin .eql (.tmp 51) (.const (.int .i64 0)))⟩,
           ⟨(some 60), none, .plain (.mov (.tmp 61))⟩])
        (.cond (.tmp 60)
         .skip
         (.both (.seq [⟨(some 63), none, .plain (.bin .eql (.tmp 51) (.const (.int .i64 238)))⟩,
            ⟨(some 62), none, .plain (.mov (.tmp 63))⟩])
         (.cond (.tmp 62)
          (.seq [⟨(some 64), none, .plain (.mov (.tmp 4))⟩,
            ⟨(some 65), none, .plain (.nilCheck (.tmp 64))⟩,
            ⟨(some 66), none, .plain (.faddr 1 (.tmp 65))⟩,
            ⟨(some 67), none, .plain (.faddr 4 (.tmp 66))⟩,
            ⟨none, none, .plain (.store 1 (.tmp 67) (.const (.bool true)))⟩])
          (.both (.both (.seq [⟨(some 69), none, .plain (.bin .eql (.tmp 51) (.const (.int .i64 5)))⟩,
              ⟨(some 68), none, .plain (.mov (.tmp 69))⟩])
           (.cond (.tmp 68)
            .skip
            (.seq [⟨(some 70), none, .plain (.bin .eql (.tmp 51) (.const (.int .i64 15)))⟩,
              ⟨(some 68), none, .plain (.mov (.tmp 70))⟩])))
          (.cond (.tmp 68)
           (.both (.both (.seq [⟨(some 71), none, .plain (.mov (.tmp 8))⟩,
               ⟨(some 72), none, .plain (.bin .geq (.tmp 71) (.const (.int .i64 0)))⟩])
            (.cond (.tmp 72)
             (.both (.seq [⟨(some 73), none, .plain (.build (.str [(.slice none 0 0), (.slice none 0 0), (.int .i64 0), (.int .i64 0), (.bool false)] [(0, 1), (1, 1), (2, 2), (4, 1)]) [])⟩,
                ⟨none, none, .plain (.store 5 (.tmp 2) (.tmp 73))⟩,
                ⟨(some 3), none, .plain (.mov (.const (.int .i64 17)))⟩])
             .ret)
             .skip))
           (.seq [⟨(some 74), none, .plain (.mov (.tmp 9))⟩,
             ⟨(some 8), none, .plain (.mov (.tmp 74))⟩]))
           (.both (.seq [⟨(some 52), none, .plain (.mov (.tmp 4))⟩,
              ⟨(some 53), none, .plain (.load (some 3) (.tmp 10))⟩,
              ⟨(some 54), none, .plain (.mov (.tmp 9))⟩,
              ⟨(some 55), none, .call 68 [(.tmp 52), (.const (.int .i64 0)), (.tmp 53), (.tmp 54)]⟩,
              ⟨(some 11), none, .plain (.mov (.tmp 55))⟩])
           (.both (.seq [⟨(some 56), none, .plain (.mov (.tmp 11))⟩,
              ⟨(some 57), none, .plain (.bin .neq (.tmp 56) (.const (.int .i64 0)))⟩])
           (.cond (.tmp 57)
            (.both (.seq [⟨(some 58), none, .plain (.build (.str [(.slice none 0 0), (.slice none 0 0), (.int .i64 0), (.int .i64 0), (.bool false)] [(0, 1), (1, 1), (2, 2), (4, 1)]) [])⟩,
               ⟨(some 59), none, .plain (.mov (.tmp 11))⟩,
               ⟨none, none, .plain (.store 5 (.tmp 2) (.tmp 58))⟩,
               ⟨(some 3), none, .plain (.mov (.tmp 59))⟩])
            .ret)
            .skip)))))))))))))
     (.seq [⟨(some 75), none, .plain (.bin .add (.tmp 45) (.const (.int .i64 1)))⟩,
       ⟨(some 45), none, .plain (.mov (.tmp 75))⟩])))))))
  (.both (.seq [⟨(some 12), none, .plain (.mov (.const (.slice none 0 0)))⟩])
  (.both (.both (.seq [⟨(some 76), none, .plain (.mov (.tmp 4))⟩,
      ⟨(some 77), none, .plain (.nilCheck (.tmp 76))⟩,
      ⟨(some 78), none, .plain (.faddr 1 (.tmp 77))⟩,
      ⟨(some 79), none, .plain (.faddr 0 (.tmp 78))⟩,
      ⟨(some 80), none, .plain (.load none (.tmp 79))⟩,
      ⟨(some 81), none, .plain (.len .sl (.tmp 80))⟩,
      ⟨(some 82), none, .plain (.mov (.const (.int .i64 0)))⟩])
   (.block 3 (.loop (.both (.seq [⟨(some 83), none, .plain (.bin .lss (.tmp 82) (.tmp 81))⟩])
     (.both (.cond (.tmp 83)
       .skip
       (.exit 3))
     (.both (.block 4 (.both (.seq [⟨(some 84), none, .plain (.iaddr none 4 (.tmp 80) (.tmp 82))⟩,
          ⟨(some 85), none, .plain (.load (some 4) (.tmp 84))⟩,
          ⟨(some 14), none, .plain (.alloc [(.int .i64 0), (.int .i64 0), (.int .i64 0), (.int .i64 0)])⟩,
          ⟨none, none, .plain (.store 4 (.tmp 14) (.tmp 85))⟩])
       (.seq [⟨(some 86), none, .plain (.mov (.tmp 12))⟩,
         ⟨(some 87), none, .plain (.faddr 0 (.tmp 14))⟩,
         ⟨(some 88), none, .plain (.load (some 2) (.tmp 87))⟩,
         ⟨(some 89), none, .plain (.buildSlice ⟨2, 16, [(.int .i64 0), (.int .i64 0)]⟩ 1 [(0, (.tmp 88))])⟩,
         ⟨(some 90), none, .plain (.append ⟨2, 16, [(.int .i64 0), (.int .i64 0)]⟩ false (.tmp 86) (.tmp 89))⟩,
         ⟨(some 12), none, .plain (.mov (.tmp 90))⟩])))
     (.seq [⟨(some 91), none, .plain (.bin .add (.tmp 82) (.const (.int .i64 1)))⟩,
       ⟨(some 82), none, .plain (.mov (.tmp 91))⟩])))))))
  (.both (.both (.seq [⟨(some 92), none, .plain (.mov (.tmp 8))⟩,
      ⟨(some 93), none, .plain (.bin .geq (.tmp 92) (.const (.int .i64 0)))⟩])
   (.cond (.tmp 93)
    (.both (.both (.seq [⟨(some 95), none, .plain (.mov (.tmp 4))⟩,
        ⟨(some 96), none, .plain (.mov (.tmp 4))⟩,
        ⟨(some 97), none, .plain (.mov (.tmp 7))⟩,
        ⟨(some 98), none, .plain (.mov (.tmp 8))⟩,
        ⟨(some 99), none, .plain (.iaddr none 3 (.tmp 97) (.tmp 98))⟩,
        ⟨(some 100), none, .plain (.load (some 3) (.tmp 99))⟩,
        ⟨(some 101), none, .call 69 [(.tmp 96), (.const (.int .i64 0)), (.tmp 100)]⟩,
        ⟨(some 94), none, .plain (.mov (.tmp 101))⟩,
        ⟨(some 102), none, .plain (.extract (.tmp 94) 0)⟩,
        ⟨(some 103), none, .plain (.extract (.tmp 94) 1)⟩,
        ⟨(some 104), none, .plain (.nilCheck (.tmp 95))⟩,
        ⟨(some 105), none, .plain (.faddr 1 (.tmp 104))⟩,
        ⟨(some 106), none, .plain (.faddr 2 (.tmp 105))⟩,
        ⟨none, none, .plain (.store 2 (.tmp 106) (.tmp 102))⟩,
        ⟨(some 6), none, .plain (.mov (.tmp 103))⟩])
     (.both (.seq [⟨(some 107), none, .plain (.mov (.tmp 6))⟩,
        ⟨(some 108), none, .plain (.bin .neq (.tmp 107) (.const (.int .i64 0)))⟩])
     (.cond (.tmp 108)
      (.both (.seq [⟨(some 109), none, .plain (.build (.str [(.slice none 0 0), (.slice none 0 0), (.int .i64 0), (.int .i64 0), (.bool false)] [(0, 1), (1, 1), (2, 2), (4, 1)]) [])⟩,
         ⟨(some 110), none, .plain (.mov (.tmp 6))⟩,
         ⟨none, none, .plain (.store 5 (.tmp 2) (.tmp 109))⟩,
         ⟨(some 3), none, .plain (.mov (.tmp 110))⟩])
      .ret)
      .skip)))
    (.both (.seq [⟨(some 111), none, .plain (.mov (.tmp 12))⟩,
       ⟨(some 112), none, .plain (.mov (.tmp 4))⟩,
       ⟨(some 113), none, .plain (.nilCheck (.tmp 112))⟩,
       ⟨(some 114), none, .plain (.faddr 1 (.tmp 113))⟩,
       ⟨(some 115), none, .plain (.faddr 2 (.tmp 114))⟩,
       ⟨(some 116), none, .plain (.load (some 2) (.tmp 115))⟩,
       ⟨(some 117), none, .plain (.buildSlice ⟨2, 16, [(.int .i64 0), (.int .i64 0)]⟩ 1 [(0, (.tmp 116))])⟩,
       ⟨(some 118), none, .plain (.append ⟨2, 16, [(.int .i64 0), (.int .i64 0)]⟩ false (.tmp 111) (.tmp 117))⟩,
       ⟨(some 12), none, .plain (.mov (.tmp 118))⟩])
    (.both (.seq [⟨(some 119), none, .plain (.mov (.tmp 4))⟩,
       ⟨(some 120), none, .plain (.mov (.tmp 7))⟩,
       ⟨(some 121), none, .plain (.mov (.tmp 8))⟩,
       ⟨(some 122), none, .plain (.iaddr none 3 (.tmp 120) (.tmp 121))⟩,
       ⟨(some 123), none, .plain (.faddr 1 (.tmp 122))⟩,
       ⟨(some 124), none, .plain (.load none (.tmp 123))⟩,
       ⟨(some 125), none, .call 70 [(.tmp 119), (.tmp 124)]⟩,
       ⟨(some 15), none, .plain (.mov (.tmp 125))⟩])
    (.both (.seq [⟨(some 126), none, .plain (.mov (.tmp 15))⟩,
       ⟨(some 127), none, .plain (.bin .neq (.tmp 126) (.const (.int .i64 0)))⟩])
    (.cond (.tmp 127)
     (.both (.seq [⟨(some 128), none, .plain (.build (.str [(.slice none 0 0), (.slice none 0 0), (.int .i64 0), (.int .i64 0), (.bool false)] [(0, 1), (1, 1), (2, 2), (4, 1)]) [])⟩,
        ⟨(some 129), none, .plain (.mov (.tmp 15))⟩,
        ⟨none, none, .plain (.store 5 (.tmp 2) (.tmp 128))⟩,
        ⟨(some 3), none, .plain (.mov (.tmp 129))⟩])
     .ret)
     .skip)))))
    .skip))
  (.both (.seq [⟨(some 130), none, .plain (.mov (.tmp 4))⟩,
     ⟨(some 131), none, .plain (.nilCheck (.tmp 130))⟩,
     ⟨(some 132), none, .plain (.faddr 1 (.tmp 131))⟩,
     ⟨(some 133), none, .plain (.faddr 1 (.tmp 132))⟩,
     ⟨(some 134), none, .plain (.load none (.tmp 133))⟩,
     ⟨(some 135), none, .plain (.append ⟨2, 16, [(.int .i64 0), (.int .i64 0)]⟩ false (.const (.slice none 0 0)) (.tmp 134))⟩,
     ⟨(some 16), none, .plain (.mov (.tmp 135))⟩])
  (.both (.both (.seq [⟨(some 136), none, .plain (.mov (.tmp 4))⟩,
      ⟨(some 137), none, .plain (.nilCheck (.tmp 136))⟩,
      ⟨(some 138), none, .plain (.faddr 1 (.tmp 137))⟩,
      ⟨(some 139), none, .plain (.faddr 0 (.tmp 138))⟩,
      ⟨(some 140), none, .plain (.load none (.tmp 139))⟩,
      ⟨(some 141), none, .plain (.len .sl (.tmp 140))⟩,
      ⟨(some 142), none, .plain (.mov (.const (.int .i64 0)))⟩])
   (.block 5 (.loop (.both (.seq [⟨(some 143), none, .plain (.bin .lss (.tmp 142) (.tmp 141))⟩])
     (.both (.cond (.tmp 143)
       .skip
       (.exit 5))
     (.both (.block 6 (.both (.seq [⟨(some 144), none, .plain (.iaddr none 4 (.tmp 140) (.tmp 142))⟩,
          ⟨(some 145), none, .plain (.load (some 4) (.tmp 144))⟩,
          ⟨(some 18), none, .plain (.alloc [(.int .i64 0), (.int .i64 0), (.int .i64 0), (.int .i64 0)])⟩,
          ⟨none, none, .plain (.store 4 (.tmp 18) (.tmp 145))⟩])
       (.seq [⟨(some 146), none, .plain (.mov (.tmp 16))⟩,
         ⟨(some 147), none, .plain (.faddr 0 (.tmp 18))⟩,
         ⟨(some 148), none, .plain (.load (some 2) (.tmp 147))⟩,
         ⟨(some 149), none, .plain (.buildSlice ⟨2, 16, [(.int .i64 0), (.int .i64 0)]⟩ 1 [(0, (.tmp 148))])⟩,
         ⟨(some 150), none, .plain (.append ⟨2, 16, [(.int .i64 0), (.int .i64 0)]⟩ false (.tmp 146) (.tmp 149))⟩,
         ⟨(some 16), none, .plain (.mov (.tmp 150))⟩])))
     (.seq [⟨(some 151), none, .plain (.bin .add (.tmp 142) (.const (.int .i64 1)))⟩,
       ⟨(some 142), none, .plain (.mov (.tmp 151))⟩])))))))
  (.both (.both (.seq [⟨(some 152), none, .plain (.mov (.tmp 12))⟩,
      ⟨(some 153), none, .call 71 [(.tmp 152)]⟩,
      ⟨(some 154), none, .plain (.un .not (.tmp 153))⟩,
      ⟨(some 155), none, .plain (.mov (.tmp 154))⟩,
      ⟨(some 156), (some (155, false)), .plain (.mov (.tmp 16))⟩,
      ⟨(some 157), (some (155, false)), .call 71 [(.tmp 156)]⟩,
      ⟨(some 158), (some (155, false)), .plain (.un .not (.tmp 157))⟩,
      ⟨(some 159), none, .plain (.pick (.tmp 155) (.const (.bool true)) (.tmp 158))⟩])
   (.cond (.tmp 159)
    (.both (.seq [⟨(some 160), none, .plain (.build (.str [(.slice none 0 0), (.slice none 0 0), (.int .i64 0), (.int .i64 0), (.bool false)] [(0, 1), (1, 1), (2, 2), (4, 1)]) [])⟩,
       ⟨none, none, .plain (.store 5 (.tmp 2) (.tmp 160))⟩,
       ⟨(some 3), none, .plain (.mov (.const (.int .i64 14)))⟩])
    .ret)
    .skip))
  (.both (.seq [⟨(some 161), none, .plain (.mov (.tmp 4))⟩,
     ⟨(some 162), none, .plain (.nilCheck (.tmp 161))⟩,
     ⟨(some 163), none, .plain (.faddr 1 (.tmp 162))⟩,
     ⟨(some 164), none, .plain (.load (some 5) (.tmp 163))⟩,
     ⟨none, none, .plain (.store 5 (.tmp 2) (.tmp 164))⟩,
     ⟨(some 3), none, .plain (.mov (.const (.int .i64 0)))⟩])
  .ret))))))))))))))))⟩
/-- fettle/mbr.Put -/
def a41 : AFunc := ⟨3, [.tmp 6],
  (.both (.seq [⟨(some 5), none, .plain (.box (.tmp 2))⟩,
     ⟨(some 6), none, .plain (.mov (.const (.int .i64 0)))⟩])
  (.both (.block 0 (.both (.seq [⟨(some 8), none, .plain (.mov (.tmp 0))⟩,
       ⟨(some 9), none, .plain (.len .sl (.tmp 8))⟩,
       ⟨(some 10), none, .plain (.bin .neq (.tmp 9) (.const (.int .i64 512)))⟩,
       ⟨(some 11), none, .plain (.mov (.tmp 10))⟩,
       ⟨(some 12), (some (11, false)), .plain (.mov (.tmp 1))⟩,
       ⟨(some 13), (some (11, false)), .plain (.bin .lss (.tmp 12) (.const (.int .i64 0)))⟩,
       ⟨(some 14), none, .plain (.pick (.tmp 11) (.const (.bool true)) (.tmp 13))⟩,
       ⟨(some 15), none, .plain (.mov (.tmp 14))⟩,
       ⟨(some 16), (some (15, false)), .plain (.mov (.tmp 1))⟩,
       ⟨(some 17), (some (15, false)), .plain (.bin .gtr (.tmp 16) (.const (.int .i64 3)))⟩,
       ⟨(some 18), none, .plain (.pick (.tmp 15) (.const (.bool true)) (.tmp 17))⟩,
       ⟨(some 7), none, .plain (.mov (.tmp 18))⟩])
    (.cond (.tmp 7)
     (.both (.seq [⟨(some 6), none, .plain (.mov (.const (.int .i64 4)))⟩])
     .ret)
     (.both (.seq [⟨(some 20), none, .plain (.faddr 0 (.tmp 5))⟩,
        ⟨(some 21), none, .plain (.load none (.tmp 20))⟩,
        ⟨(some 22), none, .plain (.bin .lss (.tmp 21) (.const (.int .i64 0)))⟩,
        ⟨(some 23), none, .plain (.mov (.tmp 22))⟩,
        ⟨(some 24), (some (23, false)), .plain (.faddr 0 (.tmp 5))⟩,
        ⟨(some 25), (some (23, false)), .plain (.load none (.tmp 24))⟩,
        ⟨(some 26), (some (23, false)), .plain (.bin .gtr (.tmp 25) (.const (.int .i64 255)))⟩,
        ⟨(some 27), none, .plain (.pick (.tmp 23) (.const (.bool true)) (.tmp 26))⟩,
        ⟨(some 28), none, .plain (.mov (.tmp 27))⟩,
        ⟨(some 29), (some (28, false)), .plain (.faddr 1 (.tmp 5))⟩,
        ⟨(some 30), (some (28, false)), .plain (.load none (.tmp 29))⟩,
        ⟨(some 31), (some (28, false)), .plain (.bin .lss (.tmp 30) (.const (.int .i64 0)))⟩,
        ⟨(some 32), none, .plain (.pick (.tmp 28) (.const (.bool true)) (.tmp 31))⟩,
        ⟨(some 33), none, .plain (.mov (.tmp 32))⟩,
        ⟨(some 34), (some (33, false)), .plain (.faddr 1 (.tmp 5))⟩,
        ⟨(some 35), (some (33, false)), .plain (.load none (.tmp 34))⟩,
        ⟨(some 36), (some (33, false)), .plain (.bin .gtr (.tmp 35) (.const (.int .i64 4294967295)))⟩,
        ⟨(some 37), none, .plain (.pick (.tmp 33) (.const (.bool true)) (.tmp 36))⟩,
        ⟨(some 38), none, .plain (.mov (.tmp 37))⟩,
        ⟨(some 39), (some (38, false)), .plain (.faddr 2 (.tmp 5))⟩,
        ⟨(some 40), (some (38, false)), .plain (.load none (.tmp 39))⟩,
        ⟨(some 41), (some (38, false)), .plain (.bin .lss (.tmp 40) (.const (.int .i64 0)))⟩,
        ⟨(some 42), none, .plain (.pick (.tmp 38) (.const (.bool true)) (.tmp 41))⟩,
        ⟨(some 43), none, .plain (.mov (.tmp 42))⟩,
        ⟨(some 44), (some (43, false)), .plain (.faddr 2 (.tmp 5))⟩,
        ⟨(some 45), (some (43, false)), .plain (.load none (.tmp 44))⟩,
        ⟨(some 46), (some (43, false)), .plain (.bin .gtr (.tmp 45) (.const (.int .i64 4294967295)))⟩,
        ⟨(some 47), none, .plain (.pick (.tmp 43) (.const (.bool true)) (.tmp 46))⟩,
        ⟨(some 19), none, .plain (.mov (.tmp 47))⟩])
     (.cond (.tmp 19)
      (.both (.seq [⟨(some 6), none, .plain (.mov (.const (.int .i64 20)))⟩])
      .ret)
      .skip)))))
  (.both (.draw 0 [⟨0, .pure, 0, ⟨(some 48), none, .plain (.mov (.tmp 0))⟩, [], []⟩,
     ⟨1, .pure, 0, ⟨(some 49), none, .plain (.mov (.tmp 1))⟩, [], []⟩,
     ⟨4, .pure, 0, ⟨(some 52), none, .plain (.faddr 0 (.tmp 5))⟩, [], []⟩,
     ⟨5, .read, 0, ⟨(some 53), none, .plain (.load none (.tmp 52))⟩, [], []⟩,
     ⟨6, .pure, 0, ⟨(some 54), none, .plain (.conv (.int .u8) (.tmp 53))⟩, [], []⟩,
     ⟨2, .chain, 0, ⟨(some 50), none, .call 65 [(.tmp 49)]⟩, [5], []⟩,
     ⟨3, .pure, 0, ⟨(some 51), none, .plain (.bin .add (.tmp 50) (.const (.int .i64 4)))⟩, [], []⟩,
     ⟨7, .pure, 0, ⟨(some 55), none, .plain (.iaddr none 1 (.tmp 48) (.tmp 51))⟩, [], []⟩,
     ⟨8, .chain, 0, ⟨none, none, .plain (.store 1 (.tmp 55) (.tmp 54))⟩, [], []⟩])
  (.both (.draw 0 [⟨0, .pure, 0, ⟨(some 56), none, .plain (.mov (.tmp 0))⟩, [], []⟩,
     ⟨1, .pure, 0, ⟨(some 57), none, .plain (.mov (.tmp 1))⟩, [], []⟩,
     ⟨4, .pure, 0, ⟨(some 60), none, .plain (.faddr 1 (.tmp 5))⟩, [], []⟩,
     ⟨5, .read, 0, ⟨(some 61), none, .plain (.load none (.tmp 60))⟩, [], []⟩,
     ⟨6, .pure, 0, ⟨(some 62), none, .plain (.conv (.int .u32) (.tmp 61))⟩, [], []⟩,
     ⟨2, .chain, 0, ⟨(some 58), none, .call 65 [(.tmp 57)]⟩, [5], []⟩,
     ⟨3, .pure, 0, ⟨(some 59), none, .plain (.bin .add (.tmp 58) (.const (.int .i64 8)))⟩, [], []⟩,
     ⟨7, .chain, 0, ⟨(some 63), none, .call 59 [(.tmp 56), (.tmp 59), (.tmp 62)]⟩, [], []⟩])
  (.both (.draw 0 [⟨0, .pure, 0, ⟨(some 64), none, .plain (.mov (.tmp 0))⟩, [], []⟩,
     ⟨1, .pure, 0, ⟨(some 65), none, .plain (.mov (.tmp 1))⟩, [], []⟩,
     ⟨4, .pure, 0, ⟨(some 68), none, .plain (.faddr 2 (.tmp 5))⟩, [], []⟩,
     ⟨5, .read, 0, ⟨(some 69), none, .plain (.load none (.tmp 68))⟩, [], []⟩,
     ⟨6, .pure, 0, ⟨(some 70), none, .plain (.conv (.int .u32) (.tmp 69))⟩, [], []⟩,
     ⟨2, .chain, 0, ⟨(some 66), none, .call 65 [(.tmp 65)]⟩, [5], []⟩,
     ⟨3, .pure, 0, ⟨(some 67), none, .plain (.bin .add (.tmp 66) (.const (.int .i64 12)))⟩, [], []⟩,
     ⟨7, .chain, 0, ⟨(some 71), none, .call 59 [(.tmp 64), (.tmp 67), (.tmp 70)]⟩, [], []⟩])
  (.both (.seq [⟨(some 6), none, .plain (.mov (.const (.int .i64 0)))⟩])
  .ret))))))⟩
/-- fettle/fettlelaw13.fits -/
def a42 : AFunc := ⟨1, [.tmp 2],
  (.both (.seq [⟨(some 1), none, .plain (.box (.tmp 0))⟩,
     ⟨(some 2), none, .plain (.mov (.const (.bool false)))⟩])
  (.both (.seq [⟨(some 3), none, .plain (.faddr 0 (.tmp 1))⟩,
     ⟨(some 4), none, .plain (.load none (.tmp 3))⟩,
     ⟨(some 5), none, .plain (.bin .geq (.tmp 4) (.const (.int .i64 0)))⟩,
     ⟨(some 6), none, .plain (.mov (.tmp 5))⟩,
     ⟨(some 7), (some (6, true)), .plain (.faddr 0 (.tmp 1))⟩,
     ⟨(some 8), (some (6, true)), .plain (.load none (.tmp 7))⟩,
     ⟨(some 9), (some (6, true)), .plain (.bin .leq (.tmp 8) (.const (.int .i64 255)))⟩,
     ⟨(some 10), none, .plain (.pick (.tmp 6) (.tmp 9) (.const (.bool false)))⟩,
     ⟨(some 11), none, .plain (.mov (.tmp 10))⟩,
     ⟨(some 12), (some (11, true)), .plain (.faddr 1 (.tmp 1))⟩,
     ⟨(some 13), (some (11, true)), .plain (.load none (.tmp 12))⟩,
     ⟨(some 14), (some (11, true)), .plain (.bin .geq (.tmp 13) (.const (.int .i64 0)))⟩,
     ⟨(some 15), none, .plain (.pick (.tmp 11) (.tmp 14) (.const (.bool false)))⟩,
     ⟨(some 16), none, .plain (.mov (.tmp 15))⟩,
     ⟨(some 17), (some (16, true)), .plain (.faddr 1 (.tmp 1))⟩,
     ⟨(some 18), (some (16, true)), .plain (.load none (.tmp 17))⟩,
     ⟨(some 19), (some (16, true)), .plain (.bin .leq (.tmp 18) (.const (.int .i64 4294967295)))⟩,
     ⟨(some 20), none, .plain (.pick (.tmp 16) (.tmp 19) (.const (.bool false)))⟩,
     ⟨(some 21), none, .plain (.mov (.tmp 20))⟩,
     ⟨(some 22), (some (21, true)), .plain (.faddr 2 (.tmp 1))⟩,
     ⟨(some 23), (some (21, true)), .plain (.load none (.tmp 22))⟩,
     ⟨(some 24), (some (21, true)), .plain (.bin .geq (.tmp 23) (.const (.int .i64 0)))⟩,
     ⟨(some 25), none, .plain (.pick (.tmp 21) (.tmp 24) (.const (.bool false)))⟩,
     ⟨(some 26), none, .plain (.mov (.tmp 25))⟩,
     ⟨(some 27), (some (26, true)), .plain (.faddr 2 (.tmp 1))⟩,
     ⟨(some 28), (some (26, true)), .plain (.load none (.tmp 27))⟩,
     ⟨(some 29), (some (26, true)), .plain (.bin .leq (.tmp 28) (.const (.int .i64 4294967295)))⟩,
     ⟨(some 30), none, .plain (.pick (.tmp 26) (.tmp 29) (.const (.bool false)))⟩,
     ⟨(some 2), none, .plain (.mov (.tmp 30))⟩])
  .ret))⟩
/-- fettle/fettleref01.With -/
def a43 : AFunc := ⟨3, [.tmp 6],
  (.both (.seq [⟨(some 6), none, .plain (.mov (.const (.slice none 0 0)))⟩])
  (.both (.seq [⟨(some 7), none, .plain (.mov (.const (.slice none 0 0)))⟩])
  (.both (.seq [⟨(some 8), none, .plain (.mov (.tmp 7))⟩,
     ⟨(some 9), none, .plain (.mov (.tmp 0))⟩,
     ⟨(some 10), none, .plain (.mov (.tmp 1))⟩,
     ⟨(some 11), none, .plain (.cut (.sl 1) (.tmp 9) none (some (.tmp 10)) none)⟩,
     ⟨(some 12), none, .plain (.append ⟨1, 1, [(.int .u8 0)]⟩ false (.tmp 8) (.tmp 11))⟩,
     ⟨(some 7), none, .plain (.mov (.tmp 12))⟩])
  (.both (.seq [⟨(some 13), none, .plain (.mov (.tmp 7))⟩,
     ⟨(some 14), none, .plain (.mov (.tmp 2))⟩,
     ⟨(some 15), none, .plain (.append ⟨1, 1, [(.int .u8 0)]⟩ false (.tmp 13) (.tmp 14))⟩,
     ⟨(some 7), none, .plain (.mov (.tmp 15))⟩])
  (.both (.seq [⟨(some 16), none, .plain (.mov (.tmp 7))⟩,
     ⟨(some 17), none, .plain (.mov (.tmp 0))⟩,
     ⟨(some 18), none, .plain (.mov (.tmp 1))⟩,
     ⟨(some 19), none, .plain (.mov (.tmp 2))⟩,
     ⟨(some 20), none, .plain (.len .sl (.tmp 19))⟩,
     ⟨(some 21), none, .plain (.bin .add (.tmp 18) (.tmp 20))⟩,
     ⟨(some 22), none, .plain (.cut (.sl 1) (.tmp 17) (some (.tmp 21)) none none)⟩,
     ⟨(some 23), none, .plain (.append ⟨1, 1, [(.int .u8 0)]⟩ false (.tmp 16) (.tmp 22))⟩,
     ⟨(some 6), none, .plain (.mov (.tmp 23))⟩])
  .ret)))))⟩
/-- fettle/fettleref01.Bytes -/
def a44 : AFunc := ⟨2, [.tmp 4],
  (.both (.seq [⟨(some 4), none, .plain (.mov (.const (.slice none 0 0)))⟩])
  (.both (.seq [⟨(some 5), none, .plain (.mov (.const (.slice none 0 0)))⟩])
  (.both (.both (.seq [⟨(some 6), none, .plain (.mov (.const (.int .i64 0)))⟩])
   (.block 0 (.loop (.both (.both (.seq [⟨(some 7), none, .plain (.mov (.tmp 6))⟩,
         ⟨(some 8), none, .plain (.mov (.tmp 1))⟩,
         ⟨(some 9), none, .plain (.bin .lss (.tmp 7) (.tmp 8))⟩])
      (.cond (.tmp 9)
       .skip
       (.exit 0)))
     (.both (.block 1 (.both (.seq [⟨(some 12), none, .plain (.mov (.tmp 5))⟩,
          ⟨(some 13), none, .plain (.mov (.tmp 0))⟩,
          ⟨(some 14), none, .plain (.bin .rem (.tmp 13) (.const (.int .u64 256)))⟩,
          ⟨(some 15), none, .plain (.conv (.int .u8) (.tmp 14))⟩,
          ⟨(some 16), none, .plain (.buildSlice ⟨1, 1, [(.int .u8 0)]⟩ 1 [(0, (.tmp 15))])⟩,
          ⟨(some 17), none, .plain (.append ⟨1, 1, [(.int .u8 0)]⟩ false (.tmp 12) (.tmp 16))⟩,
          ⟨(some 5), none, .plain (.mov (.tmp 17))⟩])
       (.seq [⟨(some 18), none, .plain (.mov (.tmp 0))⟩,
         ⟨(some 19), none, .plain (.bin .quo (.tmp 18) (.const (.int .u64 256)))⟩,
         ⟨(some 0), none, .plain (.mov (.tmp 19))⟩])))
     (.seq [⟨(some 10), none, .plain (.mov (.tmp 6))⟩,
       ⟨(some 11), none, .plain (.bin .add (.tmp 10) (.const (.int .i64 1)))⟩,
       ⟨(some 6), none, .plain (.mov (.tmp 11))⟩]))))))
  (.both (.seq [⟨(some 20), none, .plain (.mov (.tmp 5))⟩,
     ⟨(some 4), none, .plain (.mov (.tmp 20))⟩])
  .ret))))⟩
/-- fettle/octet.U32 -/
def a54 : AFunc := ⟨2, [.tmp 4, .tmp 5],
  (.both (.seq [⟨(some 4), none, .plain (.mov (.const (.int .u32 0)))⟩,
     ⟨(some 5), none, .plain (.mov (.const (.bool false)))⟩])
  (.both (.seq [⟨(some 6), none, .plain (.mov (.tmp 0))⟩,
     ⟨(some 7), none, .plain (.mov (.tmp 1))⟩,
     ⟨(some 8), none, .call 89 [(.tmp 6), (.tmp 7), (.const (.int .i64 4))]⟩,
     ⟨(some 9), none, .plain (.extract (.tmp 8) 0)⟩,
     ⟨(some 10), none, .plain (.extract (.tmp 8) 1)⟩,
     ⟨(some 4), none, .plain (.mov (.tmp 9))⟩,
     ⟨(some 5), none, .plain (.mov (.tmp 10))⟩])
  .ret))⟩
/-- fettle/fettleref01.Int -/
def a58 : AFunc := ⟨3, [.tmp 6],
  (.both (.seq [⟨(some 6), none, .plain (.mov (.const (.int .i64 0)))⟩])
  (.both (.seq [⟨(some 10), none, .plain (.mov (.tmp 0))⟩,
     ⟨(some 11), none, .plain (.mov (.tmp 1))⟩,
     ⟨(some 12), none, .plain (.mov (.tmp 2))⟩,
     ⟨(some 13), none, .call 91 [(.tmp 10), (.tmp 11), (.tmp 12)]⟩,
     ⟨(some 9), none, .plain (.mov (.tmp 13))⟩,
     ⟨(some 14), none, .plain (.extract (.tmp 9) 0)⟩,
     ⟨(some 15), none, .plain (.extract (.tmp 9) 1)⟩,
     ⟨(some 7), none, .plain (.mov (.tmp 14))⟩,
     ⟨(some 8), none, .plain (.mov (.tmp 15))⟩])
  (.both (.seq [⟨(some 16), none, .plain (.mov (.tmp 7))⟩,
     ⟨(some 17), none, .plain (.conv (.int .i64) (.tmp 16))⟩,
     ⟨(some 6), none, .plain (.mov (.tmp 17))⟩])
  .ret)))⟩
/-- fettle/octet.Put32 -/
def a59 : AFunc := ⟨3, [.tmp 6],
  (.both (.seq [⟨(some 6), none, .plain (.mov (.const (.bool false)))⟩])
  (.both (.seq [⟨(some 7), none, .plain (.mov (.tmp 0))⟩,
     ⟨(some 8), none, .plain (.mov (.tmp 1))⟩,
     ⟨(some 9), none, .plain (.mov (.tmp 2))⟩,
     ⟨(some 10), none, .call 92 [(.tmp 7), (.tmp 8), (.const (.int .i64 4)), (.tmp 9)]⟩,
     ⟨(some 6), none, .plain (.mov (.tmp 10))⟩])
  .ret))⟩
/-- fettle/mbr.row -/
def a65 : AFunc := ⟨1, [.tmp 2],
  (.both (.seq [⟨(some 2), none, .plain (.mov (.const (.int .i64 0)))⟩])
  (.both (.seq [⟨(some 3), none, .plain (.mov (.tmp 0))⟩,
     ⟨(some 4), none, .plain (.bin .mul (.const (.int .i64 16)) (.tmp 3))⟩,
     ⟨(some 5), none, .plain (.bin .add (.const (.int .i64 446)) (.tmp 4))⟩,
     ⟨(some 2), none, .plain (.mov (.tmp 5))⟩])
  .ret))⟩
/-- fettle/fettleref01.Zeros -/
def a66 : AFunc := ⟨1, [.tmp 2],
  (.both (.seq [⟨(some 2), none, .plain (.mov (.const (.slice none 0 0)))⟩])
  (.both (.seq [⟨(some 3), none, .plain (.mov (.tmp 0))⟩,
     ⟨(some 4), none, .plain (.makeSlice ⟨1, 1, [(.int .u8 0)]⟩ (.tmp 3) (.tmp 3))⟩,
     ⟨(some 2), none, .plain (.mov (.tmp 4))⟩])
  .ret))⟩
/-- (*fettle/mbr.reader).sector -/
def a67 : AFunc := ⟨2, [.tmp 4, .tmp 5],
  (.both (.seq [⟨(some 4), none, .plain (.mov (.const (.slice none 0 0)))⟩,
     ⟨(some 5), none, .plain (.mov (.const (.int .i64 0)))⟩])
  (.both (.seq [⟨(some 7), none, .plain (.mov (.tmp 1))⟩,
     ⟨(some 8), none, .plain (.bin .mul (.tmp 7) (.const (.int .i64 512)))⟩,
     ⟨(some 6), none, .plain (.mov (.tmp 8))⟩])
  (.both (.both (.seq [⟨(some 9), none, .plain (.mov (.tmp 1))⟩,
      ⟨(some 10), none, .plain (.bin .lss (.tmp 9) (.const (.int .i64 0)))⟩,
      ⟨(some 11), none, .plain (.mov (.tmp 10))⟩,
      ⟨(some 12), (some (11, false)), .plain (.mov (.tmp 6))⟩,
      ⟨(some 13), (some (11, false)), .plain (.mov (.tmp 0))⟩,
      ⟨(some 14), (some (11, false)), .plain (.nilCheck (.tmp 13))⟩,
      ⟨(some 15), (some (11, false)), .plain (.faddr 0 (.tmp 14))⟩,
      ⟨(some 16), (some (11, false)), .plain (.load none (.tmp 15))⟩,
      ⟨(some 17), (some (11, false)), .invoke (.tmp 16) [(17, 155), (95, 159), (123, 161)] []⟩,
      ⟨(some 18), (some (11, false)), .plain (.bin .sub (.tmp 17) (.const (.int .i64 512)))⟩,
      ⟨(some 19), (some (11, false)), .plain (.bin .gtr (.tmp 12) (.tmp 18))⟩,
      ⟨(some 20), none, .plain (.pick (.tmp 11) (.const (.bool true)) (.tmp 19))⟩])
   (.cond (.tmp 20)
    (.both (.seq [⟨(some 4), none, .plain (.mov (.const (.slice none 0 0)))⟩,
       ⟨(some 5), none, .plain (.mov (.const (.int .i64 4)))⟩])
    .ret)
    .skip))
  (.both (.seq [⟨(some 21), none, .plain (.mov (.tmp 0))⟩,
     ⟨(some 22), none, .plain (.mov (.tmp 0))⟩,
     ⟨(some 23), none, .plain (.nilCheck (.tmp 22))⟩,
     ⟨(some 24), none, .plain (.faddr 1 (.tmp 23))⟩,
     ⟨(some 25), none, .plain (.faddr 1 (.tmp 24))⟩,
     ⟨(some 26), none, .plain (.load none (.tmp 25))⟩,
     ⟨(some 27), none, .plain (.mov (.tmp 6))⟩,
     ⟨(some 28), none, .plain (.mov (.tmp 6))⟩,
     ⟨(some 29), none, .plain (.bin .add (.tmp 28) (.const (.int .i64 512)))⟩,
     ⟨(some 30), none, .plain (.build (.str [(.int .i64 0), (.int .i64 0)] [(0, 1), (1, 1)]) [(0, (.tmp 27)), (1, (.tmp 29))])⟩,
     ⟨(some 31), none, .plain (.buildSlice ⟨2, 16, [(.int .i64 0), (.int .i64 0)]⟩ 1 [(0, (.tmp 30))])⟩,
     ⟨(some 32), none, .plain (.append ⟨2, 16, [(.int .i64 0), (.int .i64 0)]⟩ false (.tmp 26) (.tmp 31))⟩,
     ⟨(some 33), none, .plain (.nilCheck (.tmp 21))⟩,
     ⟨(some 34), none, .plain (.faddr 1 (.tmp 33))⟩,
     ⟨(some 35), none, .plain (.faddr 1 (.tmp 34))⟩,
     ⟨none, none, .plain (.store 1 (.tmp 35) (.tmp 32))⟩])
  (.both (.seq [⟨(some 36), none, .plain (.mov (.tmp 0))⟩,
     ⟨(some 37), none, .plain (.nilCheck (.tmp 36))⟩,
     ⟨(some 38), none, .plain (.faddr 0 (.tmp 37))⟩,
     ⟨(some 39), none, .plain (.load none (.tmp 38))⟩,
     ⟨(some 40), none, .plain (.mov (.tmp 6))⟩,
     ⟨(some 41), none, .invoke (.tmp 39) [(95, 158), (120, 87), (123, 160)] [(.tmp 40), (.const (.int .i64 512))]⟩,
     ⟨(some 42), none, .plain (.extract (.tmp 41) 0)⟩,
     ⟨(some 43), none, .plain (.extract (.tmp 41) 1)⟩,
     ⟨(some 4), none, .plain (.mov (.tmp 42))⟩,
     ⟨(some 5), none, .plain (.mov (.tmp 43))⟩])
  .ret)))))⟩
/-- (*fettle/mbr.reader).add -/
def a68 : AFunc := ⟨4, [.tmp 8],
  (.both (.seq [⟨(some 6), none, .plain (.box (.tmp 2))⟩,
     ⟨(some 8), none, .plain (.mov (.const (.int .i64 0)))⟩])
  (.both (.seq [⟨(some 12), none, .plain (.mov (.tmp 0))⟩,
     ⟨(some 13), none, .plain (.mov (.tmp 1))⟩,
     ⟨(some 14), none, .plain (.load (some 3) (.tmp 6))⟩,
     ⟨(some 15), none, .call 69 [(.tmp 12), (.tmp 13), (.tmp 14)]⟩,
     ⟨(some 11), none, .plain (.mov (.tmp 15))⟩,
     ⟨(some 16), none, .plain (.extract (.tmp 11) 0)⟩,
     ⟨(some 17), none, .plain (.extract (.tmp 11) 1)⟩,
     ⟨(some 9), none, .plain (.alloc [(.int .i64 0), (.int .i64 0)])⟩,
     ⟨none, none, .plain (.store 2 (.tmp 9) (.tmp 16))⟩,
     ⟨(some 10), none, .plain (.mov (.tmp 17))⟩])
  (.both (.both (.seq [⟨(some 18), none, .plain (.mov (.tmp 10))⟩,
      ⟨(some 19), none, .plain (.bin .neq (.tmp 18) (.const (.int .i64 0)))⟩])
   (.cond (.tmp 19)
    (.both (.seq [⟨(some 20), none, .plain (.mov (.tmp 10))⟩,
       ⟨(some 8), none, .plain (.mov (.tmp 20))⟩])
    .ret)
    .skip))
  (.both (.both (.seq [⟨(some 21), none, .plain (.mov (.tmp 0))⟩,
      ⟨(some 22), none, .plain (.nilCheck (.tmp 21))⟩,
      ⟨(some 23), none, .plain (.faddr 1 (.tmp 22))⟩,
      ⟨(some 24), none, .plain (.faddr 0 (.tmp 23))⟩,
      ⟨(some 25), none, .plain (.load none (.tmp 24))⟩,
      ⟨(some 26), none, .plain (.len .sl (.tmp 25))⟩,
      ⟨(some 27), none, .plain (.bin .geq (.tmp 26) (.const (.int .i64 32)))⟩])
   (.cond (.tmp 27)
    (.both (.seq [⟨(some 8), none, .plain (.mov (.const (.int .i64 3)))⟩])
    .ret)
    .skip))
  (.both (.draw 1 [⟨0, .pure, 0, ⟨(some 28), none, .plain (.mov (.tmp 0))⟩, [], []⟩,
     ⟨1, .pure, 0, ⟨(some 29), none, .plain (.mov (.tmp 0))⟩, [], []⟩,
     ⟨2, .pure, 0, ⟨(some 30), none, .plain (.nilCheck (.tmp 29))⟩, [], []⟩,
     ⟨3, .pure, 0, ⟨(some 31), none, .plain (.faddr 1 (.tmp 30))⟩, [], []⟩,
     ⟨4, .pure, 0, ⟨(some 32), none, .plain (.faddr 0 (.tmp 31))⟩, [], []⟩,
     ⟨5, .read, 0, ⟨(some 33), none, .plain (.load none (.tmp 32))⟩, [], []⟩,
     ⟨6, .read, 0, ⟨(some 34), none, .plain (.load (some 2) (.tmp 9))⟩, [], []⟩,
     ⟨7, .pure, 0, ⟨(some 35), none, .plain (.faddr 0 (.tmp 6))⟩, [], []⟩,
     ⟨8, .read, 0, ⟨(some 36), none, .plain (.load none (.tmp 35))⟩, [], []⟩,
     ⟨9, .pure, 0, ⟨(some 37), none, .plain (.mov (.tmp 3))⟩, [], []⟩,
     ⟨10, .pure, 0, ⟨(some 38), none, .plain (.build (.str [(.int .i64 0), (.int .i64 0), (.int .i64 0), (.int .i64 0)] [(0, 2), (2, 1), (3, 1)]) [(0, (.tmp 34)), (1, (.tmp 36)), (2, (.tmp 37))])⟩, [], []⟩,
     ⟨11, .fresh, 0, ⟨(some 39), none, .plain (.buildSlice ⟨4, 32, [(.int .i64 0), (.int .i64 0), (.int .i64 0), (.int .i64 0)]⟩ 1 [(0, (.tmp 38))])⟩, [], []⟩,
     ⟨12, .chain, 0, ⟨(some 40), none, .plain (.append ⟨4, 32, [(.int .i64 0), (.int .i64 0), (.int .i64 0), (.int .i64 0)]⟩ false (.tmp 33) (.tmp 39))⟩, [], []⟩,
     ⟨13, .pure, 0, ⟨(some 41), none, .plain (.nilCheck (.tmp 28))⟩, [], []⟩,
     ⟨14, .pure, 0, ⟨(some 42), none, .plain (.faddr 1 (.tmp 41))⟩, [], []⟩,
     ⟨15, .pure, 0, ⟨(some 43), none, .plain (.faddr 0 (.tmp 42))⟩, [], []⟩,
     ⟨16, .chain, 0, ⟨none, none, .plain (.store 1 (.tmp 43) (.tmp 40))⟩, [], []⟩])
  (.both (.seq [⟨(some 8), none, .plain (.mov (.const (.int .i64 0)))⟩])
  .ret))))))⟩
/-- (*fettle/mbr.reader).ext -/
def a69 : AFunc := ⟨3, [.cell 6 (some 2), .tmp 7],
  (.both (.seq [⟨(some 5), none, .plain (.box (.tmp 2))⟩,
     ⟨(some 6), none, .plain (.alloc [(.int .i64 0), (.int .i64 0)])⟩,
     ⟨(some 7), none, .plain (.mov (.const (.int .i64 0)))⟩])
  (.both (.seq [⟨(some 10), none, .plain (.mov (.tmp 1))⟩,
     ⟨(some 11), none, .plain (.faddr 1 (.tmp 5))⟩,
     ⟨(some 12), none, .plain (.load none (.tmp 11))⟩,
     ⟨(some 13), none, .plain (.bin .add (.tmp 10) (.tmp 12))⟩,
     ⟨(some 14), none, .plain (.bin .mul (.tmp 13) (.const (.int .i64 512)))⟩,
     ⟨(some 15), none, .plain (.mov (.tmp 1))⟩,
     ⟨(some 16), none, .plain (.faddr 1 (.tmp 5))⟩,
     ⟨(some 17), none, .plain (.load none (.tmp 16))⟩,
     ⟨(some 18), none, .plain (.bin .add (.tmp 15) (.tmp 17))⟩,
     ⟨(some 19), none, .plain (.faddr 2 (.tmp 5))⟩,
     ⟨(some 20), none, .plain (.load none (.tmp 19))⟩,
     ⟨(some 21), none, .plain (.bin .add (.tmp 18) (.tmp 20))⟩,
     ⟨(some 22), none, .plain (.bin .mul (.tmp 21) (.const (.int .i64 512)))⟩,
     ⟨(some 8), none, .plain (.mov (.tmp 14))⟩,
     ⟨(some 9), none, .plain (.mov (.tmp 22))⟩])
  (.both (.both (.seq [⟨(some 23), none, .plain (.mov (.tmp 8))⟩,
      ⟨(some 24), none, .plain (.bin .lss (.tmp 23) (.const (.int .i64 512)))⟩,
      ⟨(some 25), none, .plain (.mov (.tmp 24))⟩,
      ⟨(some 26), (some (25, false)), .plain (.mov (.tmp 9))⟩,
      ⟨(some 27), (some (25, false)), .plain (.mov (.tmp 0))⟩,
      ⟨(some 28), (some (25, false)), .plain (.nilCheck (.tmp 27))⟩,
      ⟨(some 29), (some (25, false)), .plain (.faddr 0 (.tmp 28))⟩,
      ⟨(some 30), (some (25, false)), .plain (.load none (.tmp 29))⟩,
      ⟨(some 31), (some (25, false)), .invoke (.tmp 30) [(17, 155), (95, 159), (123, 161)] []⟩,
      ⟨(some 32), (some (25, false)), .plain (.bin .gtr (.tmp 26) (.tmp 31))⟩,
      ⟨(some 33), none, .plain (.pick (.tmp 25) (.const (.bool true)) (.tmp 32))⟩])
   (.cond (.tmp 33)
    (.both (.seq [⟨(some 34), none, .plain (.build (.str [(.int .i64 0), (.int .i64 0)] [(0, 1), (1, 1)]) [])⟩,
       ⟨none, none, .plain (.store 2 (.tmp 6) (.tmp 34))⟩,
       ⟨(some 7), none, .plain (.mov (.const (.int .i64 4)))⟩])
    .ret)
    .skip))
  (.both (.seq [⟨(some 35), none, .plain (.mov (.tmp 8))⟩,
     ⟨(some 36), none, .plain (.mov (.tmp 9))⟩,
     ⟨(some 37), none, .plain (.build (.str [(.int .i64 0), (.int .i64 0)] [(0, 1), (1, 1)]) [(0, (.tmp 35)), (1, (.tmp 36))])⟩,
     ⟨none, none, .plain (.store 2 (.tmp 6) (.tmp 37))⟩,
     ⟨(some 7), none, .plain (.mov (.const (.int .i64 0)))⟩])
  .ret))))⟩
/-- (*fettle/mbr.reader).inside -/
def a70 : AFunc := ⟨2, [.tmp 4],
  (.both (.seq [⟨(some 4), none, .plain (.mov (.const (.int .i64 0)))⟩])
  (.both (.seq [⟨(some 13), none, .plain (.makeMap)⟩,
     ⟨(some 5), none, .plain (.mov (.tmp 13))⟩])
  (.both (.seq [⟨(some 14), none, .plain (.mov (.tmp 1))⟩,
     ⟨(some 6), none, .plain (.mov (.tmp 14))⟩])
  (.both (.seq [⟨(some 7), none, .plain (.mov (.const (.int .i64 4)))⟩])
  (.block 0 (.loop (.both (.block 1 (.both (.both (.seq [⟨(some 17), none, .plain (.mov (.tmp 5))⟩,
          ⟨(some 18), none, .plain (.mov (.tmp 6))⟩,
          ⟨(some 19), none, .plain (.lookup ⟨(.int .i64), (.int .i64 0)⟩ false (.tmp 17) (.tmp 18))⟩,
          ⟨(some 20), none, .plain (.bin .gtr (.tmp 19) (.const (.int .i64 0)))⟩])
       (.cond (.tmp 20)
        (.both (.seq [⟨(some 4), none, .plain (.mov (.const (.int .i64 13)))⟩])
        .ret)
        .skip))
      (.both (.seq [⟨(some 21), none, .plain (.mov (.tmp 5))⟩,
         ⟨(some 22), none, .plain (.mov (.tmp 6))⟩,
         ⟨none, none, .plain (.mapPut ⟨(.int .i64), (.int .i64 0)⟩ (.tmp 21) (.tmp 22) (.const (.int .i64 1)))⟩])
      (.both (.both (.seq [⟨(some 23), none, .plain (.mov (.tmp 6))⟩,
          ⟨(some 24), none, .plain (.bin .mul (.tmp 23) (.const (.int .i64 512)))⟩,
          ⟨(some 25), none, .plain (.mov (.tmp 0))⟩,
          ⟨(some 26), none, .plain (.nilCheck (.tmp 25))⟩,
          ⟨(some 27), none, .plain (.faddr 1 (.tmp 26))⟩,
          ⟨(some 28), none, .plain (.faddr 2 (.tmp 27))⟩,
          ⟨(some 29), none, .plain (.faddr 0 (.tmp 28))⟩,
          ⟨(some 30), none, .plain (.load none (.tmp 29))⟩,
          ⟨(some 31), none, .plain (.bin .lss (.tmp 24) (.tmp 30))⟩,
          ⟨(some 32), none, .plain (.mov (.tmp 31))⟩,
          ⟨(some 33), (some (32, false)), .plain (.mov (.tmp 6))⟩,
          ⟨(some 34), (some (32, false)), .plain (.bin .mul (.tmp 33) (.const (.int .i64 512)))⟩,
          ⟨(some 35), (some (32, false)), .plain (.mov (.tmp 0))⟩,
          ⟨(some 36), (some (32, false)), .plain (.nilCheck (.tmp 35))⟩,
          ⟨(some 37), (some (32, false)), .plain (.faddr 1 (.tmp 36))⟩,
          ⟨(some 38), (some (32, false)), .plain (.faddr 2 (.tmp 37))⟩,
          ⟨(some 39), (some (32, false)), .plain (.faddr 1 (.tmp 38))⟩,
          ⟨(some 40), (some (32, false)), .plain (.load none (.tmp 39))⟩,
          ⟨(some 41), (some (32, false)), .plain (.bin .geq (.tmp 34) (.tmp 40))⟩,
          ⟨(some 42), none, .plain (.pick (.tmp 32) (.const (.bool true)) (.tmp 41))⟩])
       (.cond (.tmp 42)
        (.both (.seq [⟨(some 4), none, .plain (.mov (.const (.int .i64 4)))⟩])
        .ret)
        .skip))
      (.both (.seq [⟨(some 44), none, .plain (.mov (.tmp 0))⟩,
         ⟨(some 45), none, .plain (.mov (.tmp 6))⟩,
         ⟨(some 46), none, .call 67 [(.tmp 44), (.tmp 45)]⟩,
         ⟨(some 43), none, .plain (.mov (.tmp 46))⟩,
         ⟨(some 47), none, .plain (.extract (.tmp 43) 0)⟩,
         ⟨(some 48), none, .plain (.extract (.tmp 43) 1)⟩,
         ⟨(some 8), none, .plain (.mov (.tmp 47))⟩,
         ⟨(some 9), none, .plain (.mov (.tmp 48))⟩])
      (.both (.both (.seq [⟨(some 49), none, .plain (.mov (.tmp 9))⟩,
          ⟨(some 50), none, .plain (.bin .neq (.tmp 49) (.const (.int .i64 0)))⟩])
       (.cond (.tmp 50)
        (.both (.seq [⟨(some 51), none, .plain (.mov (.tmp 9))⟩,
           ⟨(some 4), none, .plain (.mov (.tmp 51))⟩])
        .ret)
        .skip))
      (.both (.seq [⟨(some 53), none, .plain (.mov (.tmp 8))⟩,
         ⟨(some 54), none, .call 36 [(.tmp 53)]⟩,
         ⟨(some 52), none, .plain (.mov (.tmp 54))⟩,
         ⟨(some 55), none, .plain (.extract (.tmp 52) 0)⟩,
         ⟨(some 56), none, .plain (.extract (.tmp 52) 1)⟩,
         ⟨(some 10), none, .plain (.mov (.tmp 55))⟩,
         ⟨(some 9), none, .plain (.mov (.tmp 56))⟩])
      (.both (.both (.seq [⟨(some 57), none, .plain (.mov (.tmp 9))⟩,
          ⟨(some 58), none, .plain (.bin .neq (.tmp 57) (.const (.int .i64 0)))⟩])
       (.cond (.tmp 58)
        (.both (.seq [⟨(some 59), none, .plain (.mov (.tmp 9))⟩,
           ⟨(some 4), none, .plain (.mov (.tmp 59))⟩])
        .ret)
        .skip))
      (.both (.both (.seq [⟨(some 60), none, .plain (.mov (.tmp 10))⟩,
          ⟨(some 61), none, .plain (.iaddr none 3 (.tmp 60) (.const (.int .i64 2)))⟩,
          ⟨(some 62), none, .plain (.faddr 0 (.tmp 61))⟩,
          ⟨(some 63), none, .plain (.load none (.tmp 62))⟩,
          ⟨(some 64), none, .plain (.bin .neq (.tmp 63) (.const (.int .i64 0)))⟩,
          ⟨(some 65), none, .plain (.mov (.tmp 64))⟩,
          ⟨(some 66), (some (65, false)), .plain (.mov (.tmp 10))⟩,
          ⟨(some 67), (some (65, false)), .plain (.iaddr none 3 (.tmp 66) (.const (.int .i64 3)))⟩,
          ⟨(some 68), (some (65, false)), .plain (.faddr 0 (.tmp 67))⟩,
          ⟨(some 69), (some (65, false)), .plain (.load none (.tmp 68))⟩,
          ⟨(some 70), (some (65, false)), .plain (.bin .neq (.tmp 69) (.const (.int .i64 0)))⟩,
          ⟨(some 71), none, .plain (.pick (.tmp 65) (.const (.bool true)) (.tmp 70))⟩,
          ⟨(some 72), none, .plain (.mov (.tmp 71))⟩,
          ⟨(some 73), (some (72, false)), .plain (.mov (.tmp 10))⟩,
          ⟨(some 74), (some (72, false)), .plain (.iaddr none 3 (.tmp 73) (.const (.int .i64 0)))⟩,
          ⟨(some 75), (some (72, false)), .plain (.faddr 0 (.tmp 74))⟩,
          ⟨(some 76), (some (72, false)), .plain (.load none (.tmp 75))⟩,
          ⟨(some 77), (some (72, false)), .plain (.bin .eql (.tmp 76) (.const (.int .i64 5)))⟩,
          ⟨(some 78), none, .plain (.pick (.tmp 72) (.const (.bool true)) (.tmp 77))⟩,
          ⟨(some 79), none, .plain (.mov (.tmp 78))⟩,
          ⟨(some 80), (some (79, false)), .plain (.mov (.tmp 10))⟩,
          ⟨(some 81), (some (79, false)), .plain (.iaddr none 3 (.tmp 80) (.const (.int .i64 0)))⟩,
          ⟨(some 82), (some (79, false)), .plain (.faddr 0 (.tmp 81))⟩,
          ⟨(some 83), (some (79, false)), .plain (.load none (.tmp 82))⟩,
          ⟨(some 84), (some (79, false)), .plain (.bin .eql (.tmp 83) (.const (.int .i64 15)))⟩,
          ⟨(some 85), none, .plain (.pick (.tmp 79) (.const (.bool true)) (.tmp 84))⟩])
       (.cond (.tmp 85)
        (.both (.seq [⟨(some 4), none, .plain (.mov (.const (.int .i64 11)))⟩])
        .ret)
        .skip))
      (.both (.both (.seq [⟨(some 86), none, .plain (.mov (.tmp 10))⟩,
          ⟨(some 87), none, .plain (.iaddr none 3 (.tmp 86) (.const (.int .i64 0)))⟩,
          ⟨(some 88), none, .plain (.faddr 0 (.tmp 87))⟩,
          ⟨(some 89), none, .plain (.load none (.tmp 88))⟩,
          ⟨(some 90), none, .plain (.bin .neq (.tmp 89) (.const (.int .i64 0)))⟩])
       (.cond (.tmp 90)
        (.both (.both (.seq [⟨(some 91), none, .plain (.mov (.tmp 0))⟩,
            ⟨(some 92), none, .plain (.mov (.tmp 6))⟩,
            ⟨(some 93), none, .plain (.mov (.tmp 10))⟩,
            ⟨(some 94), none, .plain (.iaddr none 3 (.tmp 93) (.const (.int .i64 0)))⟩,
            ⟨(some 95), none, .plain (.load (some 3) (.tmp 94))⟩,
            ⟨(some 96), none, .plain (.mov (.tmp 7))⟩,
            ⟨(some 97), none, .call 68 [(.tmp 91), (.tmp 92), (.tmp 95), (.tmp 96)]⟩,
            ⟨(some 11), none, .plain (.mov (.tmp 97))⟩])
         (.both (.seq [⟨(some 98), none, .plain (.mov (.tmp 11))⟩,
            ⟨(some 99), none, .plain (.bin .neq (.tmp 98) (.const (.int .i64 0)))⟩])
         (.cond (.tmp 99)
          (.both (.seq [⟨(some 100), none, .plain (.mov (.tmp 11))⟩,
             ⟨(some 4), none, .plain (.mov (.tmp 100))⟩])
          .ret)
          .skip)))
        (.both (.draw 1 [⟨0, .pure, 0, ⟨(some 101), none, .plain (.mov (.tmp 0))⟩, [], []⟩,
           ⟨1, .pure, 0, ⟨(some 102), none, .plain (.nilCheck (.tmp 101))⟩, [], []⟩,
           ⟨2, .pure, 0, ⟨(some 103), none, .plain (.faddr 1 (.tmp 102))⟩, [], []⟩,
           ⟨3, .pure, 0, ⟨(some 104), none, .plain (.faddr 0 (.tmp 103))⟩, [], []⟩,
           ⟨4, .read, 0, ⟨(some 105), none, .plain (.load none (.tmp 104))⟩, [], []⟩,
           ⟨5, .pure, 0, ⟨(some 106), none, .plain (.mov (.tmp 0))⟩, [], []⟩,
           ⟨6, .pure, 0, ⟨(some 107), none, .plain (.nilCheck (.tmp 106))⟩, [], []⟩,
           ⟨7, .pure, 0, ⟨(some 108), none, .plain (.faddr 1 (.tmp 107))⟩, [], []⟩,
           ⟨8, .pure, 0, ⟨(some 109), none, .plain (.faddr 0 (.tmp 108))⟩, [], []⟩,
           ⟨9, .read, 0, ⟨(some 110), none, .plain (.load none (.tmp 109))⟩, [], []⟩,
           ⟨10, .pure, 0, ⟨(some 111), none, .plain (.len .sl (.tmp 110))⟩, [], []⟩,
           ⟨11, .pure, 0, ⟨(some 112), none, .plain (.bin .sub (.tmp 111) (.const (.int .i64 1)))⟩, [], []⟩,
           ⟨12, .pure, 0, ⟨(some 113), none, .plain (.iaddr none 4 (.tmp 105) (.tmp 112))⟩, [], []⟩,
           ⟨13, .pure, 0, ⟨(some 114), none, .plain (.faddr 0 (.tmp 113))⟩, [], []⟩,
           ⟨14, .read, 0, ⟨(some 115), none, .plain (.load (some 2) (.tmp 114))⟩, [], []⟩,
           ⟨15, .fresh, 0, ⟨(some 12), none, .plain (.alloc [(.int .i64 0), (.int .i64 0)])⟩, [], []⟩,
           ⟨16, .chain, 0, ⟨none, none, .plain (.store 2 (.tmp 12) (.tmp 115))⟩, [], []⟩])
        (.both (.seq [⟨(some 116), none, .plain (.faddr 0 (.tmp 12))⟩,
           ⟨(some 117), none, .plain (.load none (.tmp 116))⟩,
           ⟨(some 118), none, .plain (.mov (.tmp 0))⟩,
           ⟨(some 119), none, .plain (.nilCheck (.tmp 118))⟩,
           ⟨(some 120), none, .plain (.faddr 1 (.tmp 119))⟩,
           ⟨(some 121), none, .plain (.faddr 2 (.tmp 120))⟩,
           ⟨(some 122), none, .plain (.faddr 0 (.tmp 121))⟩,
           ⟨(some 123), none, .plain (.load none (.tmp 122))⟩,
           ⟨(some 124), none, .plain (.bin .lss (.tmp 117) (.tmp 123))⟩,
           ⟨(some 125), none, .plain (.mov (.tmp 124))⟩,
           ⟨(some 126), (some (125, false)), .plain (.faddr 1 (.tmp 12))⟩,
           ⟨(some 127), (some (125, false)), .plain (.load none (.tmp 126))⟩,
           ⟨(some 128), (some (125, false)), .plain (.mov (.tmp 0))⟩,
           ⟨(some 129), (some (125, false)), .plain (.nilCheck (.tmp 128))⟩,
           ⟨(some 130), (some (125, false)), .plain (.faddr 1 (.tmp 129))⟩,
           ⟨(some 131), (some (125, false)), .plain (.faddr 2 (.tmp 130))⟩,
           ⟨(some 132), (some (125, false)), .plain (.faddr 1 (.tmp 131))⟩,
           ⟨(some 133), (some (125, false)), .plain (.load none (.tmp 132))⟩,
           ⟨(some 134), (some (125, false)), .plain (.bin .gtr (.tmp 127) (.tmp 133))⟩,
           ⟨(some 135), none, .plain (.pick (.tmp 125) (.const (.bool true)) (.tmp 134))⟩])
        (.cond (.tmp 135)
         (.both (.seq [⟨(some 4), none, .plain (.mov (.const (.int .i64 4)))⟩])
         .ret)
         .skip))))
        .skip))
      (.both (.both (.seq [⟨(some 136), none, .plain (.mov (.tmp 10))⟩,
          ⟨(some 137), none, .plain (.iaddr none 3 (.tmp 136) (.const (.int .i64 1)))⟩,
          ⟨(some 138), none, .plain (.faddr 0 (.tmp 137))⟩,
          ⟨(some 139), none, .plain (.load none (.tmp 138))⟩])
       (.block 2 (.both (.seq [⟨(some 141), none, .plain (.bin .eql (.tmp 139) (.const (.int .i64 0)))⟩,
           ⟨(some 140), none, .plain (.mov (.tmp 141))⟩])
        (.cond (.tmp 140)
         (.both (.seq [⟨(some 4), none, .plain (.mov (.const (.int .i64 0)))⟩])
         .ret)
         (.both (.both (.seq [⟨(some 143), none, .plain (.bin .eql (.tmp 139) (.const (.int .i64 5)))⟩,
             ⟨(some 142), none, .plain (.mov (.tmp 143))⟩])
          (.cond (.tmp 142)
           .skip
           (.seq [⟨(some 144), none, .plain (.bin .eql (.tmp 139) (.const (.int .i64 15)))⟩,
             ⟨(some 142), none, .plain (.mov (.tmp 144))⟩])))
         (.cond (.tmp 142)
          (.seq [⟨(some 145), none, .plain (.mov (.tmp 1))⟩,
            ⟨(some 146), none, .plain (.mov (.tmp 10))⟩,
            ⟨(some 147), none, .plain (.iaddr none 3 (.tmp 146) (.const (.int .i64 1)))⟩,
            ⟨(some 148), none, .plain (.faddr 1 (.tmp 147))⟩,
            ⟨(some 149), none, .plain (.load none (.tmp 148))⟩,
            ⟨(some 150), none, .plain (.bin .add (.tmp 145) (.tmp 149))⟩,
            ⟨(some 6), none, .plain (.mov (.tmp 150))⟩])
          (.both (.seq [⟨(some 4), none, .plain (.mov (.const (.int .i64 11)))⟩])
          .ret)))))))
      (.both (.seq [⟨(some 151), none, .plain (.mov (.tmp 7))⟩,
         ⟨(some 152), none, .plain (.bin .gtr (.tmp 151) (.const (.int .i64 36)))⟩])
      (.cond (.tmp 152)
       (.both (.seq [⟨(some 4), none, .plain (.mov (.const (.int .i64 3)))⟩])
       .ret)
       .skip)))))))))))))
    (.seq [⟨(some 15), none, .plain (.mov (.tmp 7))⟩,
      ⟨(some 16), none, .plain (.bin .add (.tmp 15) (.const (.int .i64 1)))⟩,
      ⟨(some 7), none, .plain (.mov (.tmp 16))⟩]))))))))⟩
/-- fettle/extent.Apart -/
def a71 : AFunc := ⟨1, [.tmp 2],
  (.both (.seq [⟨(some 2), none, .plain (.mov (.const (.bool false)))⟩])
  (.both (.seq [⟨(some 3), none, .plain (.mov (.const (.int .i64 0)))⟩])
  (.both (.both (.seq [⟨(some 6), none, .plain (.mov (.tmp 0))⟩,
      ⟨(some 7), none, .plain (.len .sl (.tmp 6))⟩,
      ⟨(some 8), none, .plain (.mov (.const (.int .i64 0)))⟩])
   (.block 0 (.loop (.both (.seq [⟨(some 9), none, .plain (.bin .lss (.tmp 8) (.tmp 7))⟩])
     (.both (.cond (.tmp 9)
       .skip
       (.exit 0))
     (.both (.block 1 (.both (.seq [⟨(some 10), none, .plain (.iaddr none 2 (.tmp 6) (.tmp 8))⟩,
          ⟨(some 11), none, .plain (.load (some 2) (.tmp 10))⟩,
          ⟨(some 5), none, .plain (.alloc [(.int .i64 0), (.int .i64 0)])⟩,
          ⟨none, none, .plain (.store 2 (.tmp 5) (.tmp 11))⟩])
       (.seq [⟨(some 12), none, .plain (.mov (.tmp 3))⟩,
         ⟨(some 13), none, .plain (.faddr 1 (.tmp 5))⟩,
         ⟨(some 14), none, .plain (.load none (.tmp 13))⟩,
         ⟨(some 15), none, .plain (.faddr 0 (.tmp 5))⟩,
         ⟨(some 16), none, .plain (.load none (.tmp 15))⟩,
         ⟨(some 17), none, .plain (.bin .sub (.tmp 14) (.tmp 16))⟩,
         ⟨(some 18), none, .plain (.minmax true (.const (.int .i64 0)) [(.tmp 17)])⟩,
         ⟨(some 19), none, .plain (.bin .add (.tmp 12) (.tmp 18))⟩,
         ⟨(some 3), none, .plain (.mov (.tmp 19))⟩])))
     (.seq [⟨(some 20), none, .plain (.bin .add (.tmp 8) (.const (.int .i64 1)))⟩,
       ⟨(some 8), none, .plain (.mov (.tmp 20))⟩])))))))
  (.both (.seq [⟨(some 21), none, .plain (.mov (.tmp 0))⟩,
     ⟨(some 22), none, .call 95 [(.tmp 21)]⟩,
     ⟨(some 23), none, .call 96 [(.tmp 22)]⟩,
     ⟨(some 24), none, .plain (.mov (.tmp 3))⟩,
     ⟨(some 25), none, .plain (.bin .eql (.tmp 23) (.tmp 24))⟩,
     ⟨(some 2), none, .plain (.mov (.tmp 25))⟩])
  .ret))))⟩
/-- (*fettle/ext.Volume).Read -/
def a87 : AFunc := ⟨2, [.tmp 4, .tmp 5],
  (.both (.seq [⟨(some 4), none, .plain (.mov (.const (.slice none 0 0)))⟩,
     ⟨(some 5), none, .plain (.mov (.const (.int .i64 0)))⟩])
  (.both (.block 0 (.both (.seq [⟨(some 7), none, .plain (.mov (.tmp 0))⟩,
       ⟨(some 8), none, .plain (.eqN false .ptr true (.tmp 7) (.const (.pointer none)))⟩,
       ⟨(some 6), none, .plain (.mov (.tmp 8))⟩])
    (.cond (.tmp 6)
     (.both (.seq [⟨(some 4), none, .plain (.mov (.const (.slice none 0 0)))⟩,
        ⟨(some 5), none, .plain (.mov (.const (.int .i64 2)))⟩])
     .ret)
     (.both (.seq [⟨(some 10), none, .plain (.mov (.tmp 1))⟩,
        ⟨(some 11), none, .plain (.bin .lss (.tmp 10) (.const (.int .i64 1)))⟩,
        ⟨(some 12), none, .plain (.mov (.tmp 11))⟩,
        ⟨(some 13), (some (12, false)), .plain (.mov (.tmp 1))⟩,
        ⟨(some 14), (some (12, false)), .plain (.mov (.tmp 0))⟩,
        ⟨(some 15), (some (12, false)), .plain (.nilCheck (.tmp 14))⟩,
        ⟨(some 16), (some (12, false)), .plain (.faddr 0 (.tmp 15))⟩,
        ⟨(some 17), (some (12, false)), .plain (.faddr 1 (.tmp 16))⟩,
        ⟨(some 18), (some (12, false)), .plain (.load none (.tmp 17))⟩,
        ⟨(some 19), (some (12, false)), .plain (.bin .geq (.tmp 13) (.tmp 18))⟩,
        ⟨(some 20), none, .plain (.pick (.tmp 12) (.const (.bool true)) (.tmp 19))⟩,
        ⟨(some 9), none, .plain (.mov (.tmp 20))⟩])
     (.cond (.tmp 9)
      (.both (.seq [⟨(some 4), none, .plain (.mov (.const (.slice none 0 0)))⟩,
         ⟨(some 5), none, .plain (.mov (.const (.int .i64 4)))⟩])
      .ret)
      .skip)))))
  (.both (.seq [⟨(some 21), none, .plain (.mov (.tmp 0))⟩,
     ⟨(some 22), none, .plain (.nilCheck (.tmp 21))⟩,
     ⟨(some 23), none, .plain (.faddr 11 (.tmp 22))⟩,
     ⟨(some 24), none, .plain (.load none (.tmp 23))⟩,
     ⟨(some 25), none, .plain (.mov (.tmp 1))⟩,
     ⟨(some 26), none, .plain (.bin .mul (.tmp 25) (.const (.int .i64 1024)))⟩,
     ⟨(some 27), none, .invoke (.tmp 24) [(95, 158), (120, 87), (123, 160)] [(.tmp 26), (.const (.int .i64 1024))]⟩,
     ⟨(some 28), none, .plain (.extract (.tmp 27) 0)⟩,
     ⟨(some 29), none, .plain (.extract (.tmp 27) 1)⟩,
     ⟨(some 4), none, .plain (.mov (.tmp 28))⟩,
     ⟨(some 5), none, .plain (.mov (.tmp 29))⟩])
  .ret)))⟩
/-- fettle/octet.little[uint32] -/
def a89 : AFunc := ⟨3, [.tmp 6, .tmp 7],
  (.both (.seq [⟨(some 6), none, .plain (.mov (.const (.int .u32 0)))⟩,
     ⟨(some 7), none, .plain (.mov (.const (.bool false)))⟩])
  (.both (.seq [⟨(some 8), none, .plain (.mov (.const (.int .u32 0)))⟩])
  (.both (.both (.seq [⟨(some 10), none, .plain (.mov (.tmp 0))⟩,
      ⟨(some 11), none, .plain (.mov (.tmp 1))⟩,
      ⟨(some 12), none, .plain (.mov (.tmp 2))⟩,
      ⟨(some 13), none, .call 94 [(.tmp 10), (.tmp 11), (.tmp 12)]⟩,
      ⟨(some 14), none, .plain (.un .not (.tmp 13))⟩])
   (.cond (.tmp 14)
    (.both (.seq [⟨(some 6), none, .plain (.mov (.const (.int .u32 0)))⟩,
       ⟨(some 7), none, .plain (.mov (.const (.bool false)))⟩])
    .ret)
    .skip))
  (.both (.both (.seq [⟨(some 15), none, .plain (.mov (.tmp 2))⟩,
      ⟨(some 16), none, .plain (.bin .sub (.tmp 15) (.const (.int .i64 1)))⟩,
      ⟨(some 9), none, .plain (.mov (.tmp 16))⟩])
   (.block 0 (.loop (.both (.both (.seq [⟨(some 17), none, .plain (.mov (.tmp 9))⟩,
         ⟨(some 18), none, .plain (.bin .geq (.tmp 17) (.const (.int .i64 0)))⟩])
      (.cond (.tmp 18)
       .skip
       (.exit 0)))
     (.both (.block 1 (.seq [⟨(some 21), none, .plain (.mov (.tmp 8))⟩,
         ⟨(some 22), none, .plain (.bin .shl (.tmp 21) (.const (.int .u64 8)))⟩,
         ⟨(some 23), none, .plain (.mov (.tmp 0))⟩,
         ⟨(some 24), none, .plain (.mov (.tmp 1))⟩,
         ⟨(some 25), none, .plain (.mov (.tmp 9))⟩,
         ⟨(some 26), none, .plain (.bin .add (.tmp 24) (.tmp 25))⟩,
         ⟨(some 27), none, .plain (.iaddr none 1 (.tmp 23) (.tmp 26))⟩,
         ⟨(some 28), none, .plain (.load none (.tmp 27))⟩,
         ⟨(some 29), none, .plain (.conv (.int .u32) (.tmp 28))⟩,
         ⟨(some 30), none, .plain (.bin .or (.tmp 22) (.tmp 29))⟩,
         ⟨(some 8), none, .plain (.mov (.tmp 30))⟩]))
     (.seq [⟨(some 19), none, .plain (.mov (.tmp 9))⟩,
       ⟨(some 20), none, .plain (.bin .sub (.tmp 19) (.const (.int .i64 1)))⟩,
       ⟨(some 9), none, .plain (.mov (.tmp 20))⟩]))))))
  (.both (.seq [⟨(some 31), none, .plain (.mov (.tmp 8))⟩,
     ⟨(some 6), none, .plain (.mov (.tmp 31))⟩,
     ⟨(some 7), none, .plain (.mov (.const (.bool true)))⟩])
  .ret)))))⟩
/-- fettle/fettleref01.Num -/
def a91 : AFunc := ⟨3, [.tmp 6, .tmp 7],
  (.both (.seq [⟨(some 6), none, .plain (.mov (.const (.int .u64 0)))⟩,
     ⟨(some 7), none, .plain (.mov (.const (.bool false)))⟩])
  (.both (.both (.seq [⟨(some 11), none, .plain (.mov (.tmp 0))⟩,
      ⟨(some 12), none, .plain (.mov (.tmp 1))⟩,
      ⟨(some 13), none, .plain (.mov (.tmp 2))⟩,
      ⟨(some 14), none, .call 30 [(.tmp 11), (.tmp 12), (.tmp 13)]⟩,
      ⟨(some 15), none, .plain (.un .not (.tmp 14))⟩])
   (.cond (.tmp 15)
    (.both (.seq [⟨(some 6), none, .plain (.mov (.const (.int .u64 0)))⟩,
       ⟨(some 7), none, .plain (.mov (.const (.bool false)))⟩])
    .ret)
    .skip))
  (.both (.seq [⟨(some 8), none, .plain (.mov (.const (.int .u64 0)))⟩])
  (.both (.seq [⟨(some 9), none, .plain (.mov (.const (.int .u64 1)))⟩])
  (.both (.both (.seq [⟨(some 10), none, .plain (.mov (.const (.int .i64 0)))⟩])
   (.block 0 (.loop (.both (.both (.seq [⟨(some 16), none, .plain (.mov (.tmp 10))⟩,
         ⟨(some 17), none, .plain (.mov (.tmp 2))⟩,
         ⟨(some 18), none, .plain (.bin .lss (.tmp 16) (.tmp 17))⟩])
      (.cond (.tmp 18)
       .skip
       (.exit 0)))
     (.both (.block 1 (.both (.seq [⟨(some 21), none, .plain (.mov (.tmp 8))⟩,
          ⟨(some 22), none, .plain (.mov (.tmp 0))⟩,
          ⟨(some 23), none, .plain (.mov (.tmp 1))⟩,
          ⟨(some 24), none, .plain (.mov (.tmp 10))⟩,
          ⟨(some 25), none, .plain (.bin .add (.tmp 23) (.tmp 24))⟩,
          ⟨(some 26), none, .plain (.iaddr none 1 (.tmp 22) (.tmp 25))⟩,
          ⟨(some 27), none, .plain (.load none (.tmp 26))⟩,
          ⟨(some 28), none, .plain (.conv (.int .u64) (.tmp 27))⟩,
          ⟨(some 29), none, .plain (.mov (.tmp 9))⟩,
          ⟨(some 30), none, .plain (.bin .mul (.tmp 28) (.tmp 29))⟩,
          ⟨(some 31), none, .plain (.bin .add (.tmp 21) (.tmp 30))⟩,
          ⟨(some 8), none, .plain (.mov (.tmp 31))⟩])
       (.seq [⟨(some 32), none, .plain (.mov (.tmp 9))⟩,
         ⟨(some 33), none, .plain (.bin .mul (.tmp 32) (.const (.int .u64 256)))⟩,
         ⟨(some 9), none, .plain (.mov (.tmp 33))⟩])))
     (.seq [⟨(some 19), none, .plain (.mov (.tmp 10))⟩,
       ⟨(some 20), none, .plain (.bin .add (.tmp 19) (.const (.int .i64 1)))⟩,
       ⟨(some 10), none, .plain (.mov (.tmp 20))⟩]))))))
  (.both (.seq [⟨(some 34), none, .plain (.mov (.tmp 8))⟩,
     ⟨(some 6), none, .plain (.mov (.tmp 34))⟩,
     ⟨(some 7), none, .plain (.mov (.const (.bool true)))⟩])
  .ret))))))⟩
/-- fettle/octet.put[uint32] -/
def a92 : AFunc := ⟨4, [.tmp 8],
  (.both (.seq [⟨(some 8), none, .plain (.mov (.const (.bool false)))⟩])
  (.both (.both (.seq [⟨(some 10), none, .plain (.mov (.tmp 0))⟩,
      ⟨(some 11), none, .plain (.mov (.tmp 1))⟩,
      ⟨(some 12), none, .plain (.mov (.tmp 2))⟩,
      ⟨(some 13), none, .call 94 [(.tmp 10), (.tmp 11), (.tmp 12)]⟩,
      ⟨(some 14), none, .plain (.un .not (.tmp 13))⟩])
   (.cond (.tmp 14)
    (.both (.seq [⟨(some 8), none, .plain (.mov (.const (.bool false)))⟩])
    .ret)
    .skip))
  (.both (.both (.seq [⟨(some 15), none, .plain (.mov (.tmp 2))⟩,
      ⟨(some 16), none, .plain (.mov (.const (.int .i64 0)))⟩])
   (.block 0 (.loop (.both (.seq [⟨(some 17), none, .plain (.bin .lss (.tmp 16) (.tmp 15))⟩])
     (.both (.cond (.tmp 17)
       .skip
       (.exit 0))
     (.both (.block 1 (.both (.seq [⟨(some 18), none, .plain (.mov (.tmp 16))⟩,
          ⟨(some 9), none, .plain (.mov (.tmp 18))⟩])
       (.both (.seq [⟨(some 19), none, .plain (.mov (.tmp 0))⟩,
          ⟨(some 20), none, .plain (.mov (.tmp 1))⟩,
          ⟨(some 21), none, .plain (.mov (.tmp 9))⟩,
          ⟨(some 22), none, .plain (.bin .add (.tmp 20) (.tmp 21))⟩,
          ⟨(some 23), none, .plain (.mov (.tmp 3))⟩,
          ⟨(some 24), none, .plain (.conv (.int .u8) (.tmp 23))⟩,
          ⟨(some 25), none, .plain (.iaddr none 1 (.tmp 19) (.tmp 22))⟩,
          ⟨none, none, .plain (.store 1 (.tmp 25) (.tmp 24))⟩])
       (.seq [⟨(some 26), none, .plain (.mov (.tmp 3))⟩,
         ⟨(some 27), none, .plain (.bin .shr (.tmp 26) (.const (.int .u64 8)))⟩,
         ⟨(some 3), none, .plain (.mov (.tmp 27))⟩]))))
     (.seq [⟨(some 28), none, .plain (.bin .add (.tmp 16) (.const (.int .i64 1)))⟩,
       ⟨(some 16), none, .plain (.mov (.tmp 28))⟩])))))))
  (.both (.seq [⟨(some 8), none, .plain (.mov (.const (.bool true)))⟩])
  .ret))))⟩
/-- fettle/octet.in -/
def a94 : AFunc := ⟨3, [.tmp 6],
  (.both (.seq [⟨(some 6), none, .plain (.mov (.const (.bool false)))⟩])
  (.both (.seq [⟨(some 7), none, .plain (.mov (.tmp 1))⟩,
     ⟨(some 8), none, .plain (.bin .geq (.tmp 7) (.const (.int .i64 0)))⟩,
     ⟨(some 9), none, .plain (.mov (.tmp 8))⟩,
     ⟨(some 10), (some (9, true)), .plain (.mov (.tmp 2))⟩,
     ⟨(some 11), (some (9, true)), .plain (.bin .geq (.tmp 10) (.const (.int .i64 0)))⟩,
     ⟨(some 12), none, .plain (.pick (.tmp 9) (.tmp 11) (.const (.bool false)))⟩,
     ⟨(some 13), none, .plain (.mov (.tmp 12))⟩,
     ⟨(some 14), (some (13, true)), .plain (.mov (.tmp 1))⟩,
     ⟨(some 15), (some (13, true)), .plain (.mov (.tmp 0))⟩,
     ⟨(some 16), (some (13, true)), .plain (.len .sl (.tmp 15))⟩,
     ⟨(some 17), (some (13, true)), .plain (.bin .leq (.tmp 14) (.tmp 16))⟩,
     ⟨(some 18), none, .plain (.pick (.tmp 13) (.tmp 17) (.const (.bool false)))⟩,
     ⟨(some 19), none, .plain (.mov (.tmp 18))⟩,
     ⟨(some 20), (some (19, true)), .plain (.mov (.tmp 2))⟩,
     ⟨(some 21), (some (19, true)), .plain (.mov (.tmp 0))⟩,
     ⟨(some 22), (some (19, true)), .plain (.len .sl (.tmp 21))⟩,
     ⟨(some 23), (some (19, true)), .plain (.mov (.tmp 1))⟩,
     ⟨(some 24), (some (19, true)), .plain (.bin .sub (.tmp 22) (.tmp 23))⟩,
     ⟨(some 25), (some (19, true)), .plain (.bin .leq (.tmp 20) (.tmp 24))⟩,
     ⟨(some 26), none, .plain (.pick (.tmp 19) (.tmp 25) (.const (.bool false)))⟩,
     ⟨(some 6), none, .plain (.mov (.tmp 26))⟩])
  .ret))⟩
/-- fettle/extent.Norm -/
def a95 : AFunc := ⟨1, [.tmp 2],
  (.both (.seq [⟨(some 2), none, .plain (.mov (.const (.slice none 0 0)))⟩])
  (.both (.seq [⟨(some 8), none, .plain (.mov (.tmp 0))⟩,
     ⟨(some 9), none, .call 105 [(.tmp 8)]⟩,
     ⟨(some 3), none, .plain (.mov (.tmp 9))⟩])
  (.both (.seq [⟨(some 10), none, .plain (.mov (.tmp 3))⟩,
     ⟨(some 11), none, .call 106 [(.tmp 10), (.func 107)]⟩])
  (.both (.seq [⟨(some 4), none, .plain (.mov (.const (.slice none 0 0)))⟩])
  (.both (.both (.seq [⟨(some 12), none, .plain (.mov (.tmp 3))⟩,
      ⟨(some 13), none, .plain (.len .sl (.tmp 12))⟩,
      ⟨(some 14), none, .plain (.mov (.const (.int .i64 0)))⟩])
   (.block 0 (.loop (.both (.seq [⟨(some 15), none, .plain (.bin .lss (.tmp 14) (.tmp 13))⟩])
     (.both (.cond (.tmp 15)
       .skip
       (.exit 0))
     (.both (.block 1 (.both (.seq [⟨(some 16), none, .plain (.iaddr none 2 (.tmp 12) (.tmp 14))⟩,
          ⟨(some 17), none, .plain (.load (some 2) (.tmp 16))⟩,
          ⟨(some 6), none, .plain (.alloc [(.int .i64 0), (.int .i64 0)])⟩,
          ⟨none, none, .plain (.store 2 (.tmp 6) (.tmp 17))⟩])
       (.both (.both (.seq [⟨(some 18), none, .plain (.faddr 1 (.tmp 6))⟩,
           ⟨(some 19), none, .plain (.load none (.tmp 18))⟩,
           ⟨(some 20), none, .plain (.faddr 0 (.tmp 6))⟩,
           ⟨(some 21), none, .plain (.load none (.tmp 20))⟩,
           ⟨(some 22), none, .plain (.bin .leq (.tmp 19) (.tmp 21))⟩])
        (.cond (.tmp 22)
         (.exit 1)
         .skip))
       (.both (.both (.seq [⟨(some 23), none, .plain (.mov (.tmp 4))⟩,
           ⟨(some 24), none, .plain (.len .sl (.tmp 23))⟩,
           ⟨(some 7), none, .plain (.mov (.tmp 24))⟩])
        (.both (.seq [⟨(some 25), none, .plain (.mov (.tmp 7))⟩,
           ⟨(some 26), none, .plain (.bin .gtr (.tmp 25) (.const (.int .i64 0)))⟩,
           ⟨(some 27), none, .plain (.mov (.tmp 26))⟩,
           ⟨(some 28), (some (27, true)), .plain (.faddr 0 (.tmp 6))⟩,
           ⟨(some 29), (some (27, true)), .plain (.load none (.tmp 28))⟩,
           ⟨(some 30), (some (27, true)), .plain (.mov (.tmp 4))⟩,
           ⟨(some 31), (some (27, true)), .plain (.mov (.tmp 7))⟩,
           ⟨(some 32), (some (27, true)), .plain (.bin .sub (.tmp 31) (.const (.int .i64 1)))⟩,
           ⟨(some 33), (some (27, true)), .plain (.iaddr none 2 (.tmp 30) (.tmp 32))⟩,
           ⟨(some 34), (some (27, true)), .plain (.faddr 1 (.tmp 33))⟩,
           ⟨(some 35), (some (27, true)), .plain (.load none (.tmp 34))⟩,
           ⟨(some 36), (some (27, true)), .plain (.bin .leq (.tmp 29) (.tmp 35))⟩,
           ⟨(some 37), none, .plain (.pick (.tmp 27) (.tmp 36) (.const (.bool false)))⟩])
        (.cond (.tmp 37)
         (.both (.draw 0 [⟨0, .pure, 0, ⟨(some 38), none, .plain (.mov (.tmp 4))⟩, [], []⟩,
            ⟨1, .pure, 0, ⟨(some 39), none, .plain (.mov (.tmp 7))⟩, [], []⟩,
            ⟨2, .pure, 0, ⟨(some 40), none, .plain (.bin .sub (.tmp 39) (.const (.int .i64 1)))⟩, [], []⟩,
            ⟨3, .pure, 0, ⟨(some 41), none, .plain (.mov (.tmp 4))⟩, [], []⟩,
            ⟨4, .pure, 0, ⟨(some 42), none, .plain (.mov (.tmp 7))⟩, [], []⟩,
            ⟨5, .pure, 0, ⟨(some 43), none, .plain (.bin .sub (.tmp 42) (.const (.int .i64 1)))⟩, [], []⟩,
            ⟨6, .pure, 0, ⟨(some 44), none, .plain (.iaddr none 2 (.tmp 41) (.tmp 43))⟩, [], []⟩,
            ⟨7, .pure, 0, ⟨(some 45), none, .plain (.faddr 1 (.tmp 44))⟩, [], []⟩,
            ⟨8, .read, 0, ⟨(some 46), none, .plain (.load none (.tmp 45))⟩, [], []⟩,
            ⟨9, .pure, 0, ⟨(some 47), none, .plain (.faddr 1 (.tmp 6))⟩, [], []⟩,
            ⟨10, .read, 0, ⟨(some 48), none, .plain (.load none (.tmp 47))⟩, [], []⟩,
            ⟨11, .pure, 0, ⟨(some 49), none, .plain (.minmax true (.tmp 46) [(.tmp 48)])⟩, [], []⟩,
            ⟨12, .pure, 0, ⟨(some 50), none, .plain (.iaddr none 2 (.tmp 38) (.tmp 40))⟩, [], []⟩,
            ⟨13, .pure, 0, ⟨(some 51), none, .plain (.faddr 1 (.tmp 50))⟩, [], []⟩,
            ⟨14, .chain, 0, ⟨none, none, .plain (.store 1 (.tmp 51) (.tmp 49))⟩, [], []⟩])
         (.exit 1))
         .skip)))
       (.seq [⟨(some 52), none, .plain (.mov (.tmp 4))⟩,
         ⟨(some 53), none, .plain (.load (some 2) (.tmp 6))⟩,
         ⟨(some 54), none, .plain (.buildSlice ⟨2, 16, [(.int .i64 0), (.int .i64 0)]⟩ 1 [(0, (.tmp 53))])⟩,
         ⟨(some 55), none, .plain (.append ⟨2, 16, [(.int .i64 0), (.int .i64 0)]⟩ false (.tmp 52) (.tmp 54))⟩,
         ⟨(some 4), none, .plain (.mov (.tmp 55))⟩])))))
     (.seq [⟨(some 56), none, .plain (.bin .add (.tmp 14) (.const (.int .i64 1)))⟩,
       ⟨(some 14), none, .plain (.mov (.tmp 56))⟩])))))))
  (.both (.seq [⟨(some 57), none, .plain (.mov (.tmp 4))⟩,
     ⟨(some 2), none, .plain (.mov (.tmp 57))⟩])
  .ret))))))⟩
/-- (fettle/extent.Set).Bytes -/
def a96 : AFunc := ⟨1, [.tmp 2],
  (.both (.seq [⟨(some 2), none, .plain (.mov (.const (.int .i64 0)))⟩])
  (.both (.seq [⟨(some 3), none, .plain (.alloc [(.int .i64 0)])⟩,
     ⟨none, none, .plain (.store 1 (.tmp 3) (.const (.int .i64 0)))⟩])
  (.both (.both (.seq [⟨(some 6), none, .plain (.mov (.tmp 0))⟩,
      ⟨(some 7), none, .call 109 [(.tmp 6)]⟩])
   (.block 0 (.rangeF (.tmp 7) [8, 9]
     (.seq [⟨(some 5), none, .plain (.alloc [(.int .i64 0), (.int .i64 0)])⟩,
       ⟨none, none, .plain (.store 2 (.tmp 5) (.tmp 9))⟩])
     (.block 1 (.seq [⟨(some 10), none, .plain (.load none (.tmp 3))⟩,
        ⟨(some 11), none, .plain (.faddr 1 (.tmp 5))⟩,
        ⟨(some 12), none, .plain (.load none (.tmp 11))⟩,
        ⟨(some 13), none, .plain (.faddr 0 (.tmp 5))⟩,
        ⟨(some 14), none, .plain (.load none (.tmp 13))⟩,
        ⟨(some 15), none, .plain (.bin .sub (.tmp 12) (.tmp 14))⟩,
        ⟨(some 16), none, .plain (.bin .add (.tmp 10) (.tmp 15))⟩,
        ⟨none, none, .plain (.store 1 (.tmp 3) (.tmp 16))⟩])))))
  (.both (.seq [⟨(some 17), none, .plain (.load none (.tmp 3))⟩,
     ⟨(some 2), none, .plain (.mov (.tmp 17))⟩])
  .ret))))⟩
/-- slices.Clone[[]fettle/api.Ext,fettle/api.Ext] -/
def a105 : AFunc := ⟨1, [.tmp 2],
  (.both (.seq [⟨(some 2), none, .plain (.mov (.const (.slice none 0 0)))⟩])
  (.both (.both (.seq [⟨(some 3), none, .plain (.mov (.tmp 0))⟩,
      ⟨(some 4), none, .plain (.eqN false .sl true (.tmp 3) (.const (.slice none 0 0)))⟩])
   (.cond (.tmp 4)
    (.both (.seq [⟨(some 2), none, .plain (.mov (.const (.slice none 0 0)))⟩])
    .ret)
    .skip))
  (.both (.seq [⟨(some 5), none, .plain (.buildSlice ⟨2, 16, [(.int .i64 0), (.int .i64 0)]⟩ 0 [])⟩,
     ⟨(some 6), none, .plain (.mov (.tmp 0))⟩,
     ⟨(some 7), none, .plain (.append ⟨2, 16, [(.int .i64 0), (.int .i64 0)]⟩ false (.tmp 5) (.tmp 6))⟩,
     ⟨(some 2), none, .plain (.mov (.tmp 7))⟩])
  .ret)))⟩
/-- slices.SortFunc[[]fettle/api.Ext,fettle/api.Ext] -/
def a106 : AFunc := ⟨2, [],
  (.both (.seq [⟨(some 5), none, .plain (.mov (.tmp 0))⟩,
     ⟨(some 6), none, .plain (.len .sl (.tmp 5))⟩,
     ⟨(some 4), none, .plain (.mov (.tmp 6))⟩])
  (.seq [⟨(some 7), none, .plain (.mov (.tmp 0))⟩,
    ⟨(some 8), none, .plain (.mov (.tmp 4))⟩,
    ⟨(some 9), none, .plain (.mov (.tmp 4))⟩,
    ⟨(some 10), none, .plain (.conv (.int .u64) (.tmp 9))⟩,
    ⟨(some 11), none, .call 118 [(.tmp 10)]⟩,
    ⟨(some 12), none, .plain (.mov (.tmp 1))⟩,
    ⟨(some 13), none, .call 117 [(.tmp 7), (.const (.int .i64 0)), (.tmp 8), (.tmp 11), (.tmp 12)]⟩]))⟩
/-- fettle/extent.Norm$1 -/
def a107 : AFunc := ⟨2, [.tmp 4],
  (.both (.seq [⟨(some 2), none, .plain (.box (.tmp 0))⟩,
     ⟨(some 3), none, .plain (.box (.tmp 1))⟩,
     ⟨(some 4), none, .plain (.mov (.const (.int .i64 0)))⟩])
  (.both (.seq [⟨(some 5), none, .plain (.faddr 0 (.tmp 2))⟩,
     ⟨(some 6), none, .plain (.load none (.tmp 5))⟩,
     ⟨(some 7), none, .plain (.faddr 0 (.tmp 3))⟩,
     ⟨(some 8), none, .plain (.load none (.tmp 7))⟩,
     ⟨(some 9), none, .call 108 [(.tmp 6), (.tmp 8)]⟩,
     ⟨(some 4), none, .plain (.mov (.tmp 9))⟩])
  .ret))⟩
/-- cmp.Compare[int64] -/
def a108 : AFunc := ⟨2, [.tmp 4],
  (.both (.seq [⟨(some 4), none, .plain (.mov (.const (.int .i64 0)))⟩])
  (.both (.seq [⟨(some 7), none, .plain (.mov (.tmp 0))⟩,
     ⟨(some 8), none, .call 119 [(.tmp 7)]⟩,
     ⟨(some 5), none, .plain (.mov (.tmp 8))⟩])
  (.both (.seq [⟨(some 9), none, .plain (.mov (.tmp 1))⟩,
     ⟨(some 10), none, .call 119 [(.tmp 9)]⟩,
     ⟨(some 6), none, .plain (.mov (.tmp 10))⟩])
  (.both (.both (.seq [⟨(some 11), none, .plain (.mov (.tmp 5))⟩])
   (.cond (.tmp 11)
    (.both (.both (.seq [⟨(some 12), none, .plain (.mov (.tmp 6))⟩])
     (.cond (.tmp 12)
      (.both (.seq [⟨(some 4), none, .plain (.mov (.const (.int .i64 0)))⟩])
      .ret)
      .skip))
    (.both (.seq [⟨(some 4), none, .plain (.mov (.const (.int .i64 (-1))))⟩])
    .ret))
    .skip))
  (.both (.both (.seq [⟨(some 13), none, .plain (.mov (.tmp 6))⟩])
   (.cond (.tmp 13)
    (.both (.seq [⟨(some 4), none, .plain (.mov (.const (.int .i64 1)))⟩])
    .ret)
    .skip))
  (.both (.both (.seq [⟨(some 14), none, .plain (.mov (.tmp 0))⟩,
      ⟨(some 15), none, .plain (.mov (.tmp 1))⟩,
      ⟨(some 16), none, .plain (.bin .lss (.tmp 14) (.tmp 15))⟩])
   (.cond (.tmp 16)
    (.both (.seq [⟨(some 4), none, .plain (.mov (.const (.int .i64 (-1))))⟩])
    .ret)
    .skip))
  (.both (.both (.seq [⟨(some 17), none, .plain (.mov (.tmp 0))⟩,
      ⟨(some 18), none, .plain (.mov (.tmp 1))⟩,
      ⟨(some 19), none, .plain (.bin .gtr (.tmp 17) (.tmp 18))⟩])
   (.cond (.tmp 19)
    (.both (.seq [⟨(some 4), none, .plain (.mov (.const (.int .i64 1)))⟩])
    .ret)
    .skip))
  (.both (.seq [⟨(some 4), none, .plain (.mov (.const (.int .i64 0)))⟩])
  .ret))))))))⟩
/-- (fettle/extent.Set).All -/
def a109 : AFunc := ⟨1, [.tmp 2],
  (.both (.seq [⟨(some 1), none, .plain (.box (.tmp 0))⟩,
     ⟨(some 2), none, .plain (.mov (.const .nilFunc))⟩])
  (.both (.seq [⟨(some 3), none, .plain (.mkfunc 120 [] [(.tmp 1)])⟩,
     ⟨(some 2), none, .plain (.mov (.tmp 3))⟩])
  .ret))⟩
/-- slices.pdqsortCmpFunc[fettle/api.Ext] -/
def a117 : AFunc := ⟨5, [],
  (.both (.seq [⟨(some 10), none, .plain (.mov (.const (.bool true)))⟩])
  (.both (.seq [⟨(some 11), none, .plain (.mov (.const (.bool true)))⟩])
  (.block 0 (.loop (.block 1 (.both (.seq [⟨(some 21), none, .plain (.mov (.tmp 2))⟩,
        ⟨(some 22), none, .plain (.mov (.tmp 1))⟩,
        ⟨(some 23), none, .plain (.bin .sub (.tmp 21) (.tmp 22))⟩,
        ⟨(some 12), none, .plain (.mov (.tmp 23))⟩])
     (.both (.both (.seq [⟨(some 24), none, .plain (.mov (.tmp 12))⟩,
         ⟨(some 25), none, .plain (.bin .leq (.tmp 24) (.const (.int .i64 12)))⟩])
      (.cond (.tmp 25)
       (.both (.seq [⟨(some 26), none, .plain (.mov (.tmp 0))⟩,
          ⟨(some 27), none, .plain (.mov (.tmp 1))⟩,
          ⟨(some 28), none, .plain (.mov (.tmp 2))⟩,
          ⟨(some 29), none, .plain (.mov (.tmp 4))⟩,
          ⟨(some 30), none, .call 125 [(.tmp 26), (.tmp 27), (.tmp 28), (.tmp 29)]⟩])
       .ret)
       .skip))
     (.both (.both (.seq [⟨(some 31), none, .plain (.mov (.tmp 3))⟩,
         ⟨(some 32), none, .plain (.bin .eql (.tmp 31) (.const (.int .i64 0)))⟩])
      (.cond (.tmp 32)
       (.both (.seq [⟨(some 33), none, .plain (.mov (.tmp 0))⟩,
          ⟨(some 34), none, .plain (.mov (.tmp 1))⟩,
          ⟨(some 35), none, .plain (.mov (.tmp 2))⟩,
          ⟨(some 36), none, .plain (.mov (.tmp 4))⟩,
          ⟨(some 37), none, .call 126 [(.tmp 33), (.tmp 34), (.tmp 35), (.tmp 36)]⟩])
       .ret)
       .skip))
     (.both (.both (.seq [⟨(some 38), none, .plain (.mov (.tmp 10))⟩,
         ⟨(some 39), none, .plain (.un .not (.tmp 38))⟩])
      (.cond (.tmp 39)
       (.both (.seq [⟨(some 40), none, .plain (.mov (.tmp 0))⟩,
          ⟨(some 41), none, .plain (.mov (.tmp 1))⟩,
          ⟨(some 42), none, .plain (.mov (.tmp 2))⟩,
          ⟨(some 43), none, .plain (.mov (.tmp 4))⟩,
          ⟨(some 44), none, .call 127 [(.tmp 40), (.tmp 41), (.tmp 42), (.tmp 43)]⟩])
       (.seq [⟨(some 45), none, .plain (.mov (.tmp 3))⟩,
         ⟨(some 46), none, .plain (.bin .sub (.tmp 45) (.const (.int .i64 1)))⟩,
         ⟨(some 3), none, .plain (.mov (.tmp 46))⟩]))
       .skip))
     (.both (.seq [⟨(some 48), none, .plain (.mov (.tmp 0))⟩,
        ⟨(some 49), none, .plain (.mov (.tmp 1))⟩,
        ⟨(some 50), none, .plain (.mov (.tmp 2))⟩,
        ⟨(some 51), none, .plain (.mov (.tmp 4))⟩,
        ⟨(some 52), none, .call 128 [(.tmp 48), (.tmp 49), (.tmp 50), (.tmp 51)]⟩,
        ⟨(some 47), none, .plain (.mov (.tmp 52))⟩,
        ⟨(some 53), none, .plain (.extract (.tmp 47) 0)⟩,
        ⟨(some 54), none, .plain (.extract (.tmp 47) 1)⟩,
        ⟨(some 13), none, .plain (.mov (.tmp 53))⟩,
        ⟨(some 14), none, .plain (.mov (.tmp 54))⟩])
     (.both (.both (.seq [⟨(some 55), none, .plain (.mov (.tmp 14))⟩,
         ⟨(some 56), none, .plain (.bin .eql (.tmp 55) (.const (.int .i64 2)))⟩])
      (.cond (.tmp 56)
       (.both (.seq [⟨(some 57), none, .plain (.mov (.tmp 0))⟩,
          ⟨(some 58), none, .plain (.mov (.tmp 1))⟩,
          ⟨(some 59), none, .plain (.mov (.tmp 2))⟩,
          ⟨(some 60), none, .plain (.mov (.tmp 4))⟩,
          ⟨(some 61), none, .call 129 [(.tmp 57), (.tmp 58), (.tmp 59), (.tmp 60)]⟩])
       (.both (.seq [⟨(some 62), none, .plain (.mov (.tmp 2))⟩,
          ⟨(some 63), none, .plain (.bin .sub (.tmp 62) (.const (.int .i64 1)))⟩,
          ⟨(some 64), none, .plain (.mov (.tmp 13))⟩,
          ⟨(some 65), none, .plain (.mov (.tmp 1))⟩,
          ⟨(some 66), none, .plain (.bin .sub (.tmp 64) (.tmp 65))⟩,
          ⟨(some 67), none, .plain (.bin .sub (.tmp 63) (.tmp 66))⟩,
          ⟨(some 13), none, .plain (.mov (.tmp 67))⟩])
       (.seq [⟨(some 14), none, .plain (.mov (.const (.int .i64 1)))⟩])))
       .skip))
     (.both (.both (.seq [⟨(some 68), none, .plain (.mov (.tmp 10))⟩,
         ⟨(some 69), none, .plain (.mov (.tmp 68))⟩,
         ⟨(some 70), (some (69, true)), .plain (.mov (.tmp 11))⟩,
         ⟨(some 71), none, .plain (.pick (.tmp 69) (.tmp 70) (.const (.bool false)))⟩,
         ⟨(some 72), none, .plain (.mov (.tmp 71))⟩,
         ⟨(some 73), (some (72, true)), .plain (.mov (.tmp 14))⟩,
         ⟨(some 74), (some (72, true)), .plain (.bin .eql (.tmp 73) (.const (.int .i64 1)))⟩,
         ⟨(some 75), none, .plain (.pick (.tmp 72) (.tmp 74) (.const (.bool false)))⟩])
      (.cond (.tmp 75)
       (.both (.seq [⟨(some 76), none, .plain (.mov (.tmp 0))⟩,
          ⟨(some 77), none, .plain (.mov (.tmp 1))⟩,
          ⟨(some 78), none, .plain (.mov (.tmp 2))⟩,
          ⟨(some 79), none, .plain (.mov (.tmp 4))⟩,
          ⟨(some 80), none, .call 130 [(.tmp 76), (.tmp 77), (.tmp 78), (.tmp 79)]⟩])
       (.cond (.tmp 80)
        .ret
        .skip))
       .skip))
     (.both (.both (.draw 0 [⟨0, .pure, 0, ⟨(some 81), none, .plain (.mov (.tmp 1))⟩, [], []⟩,
         ⟨1, .pure, 0, ⟨(some 82), none, .plain (.bin .gtr (.tmp 81) (.const (.int .i64 0)))⟩, [], []⟩,
         ⟨2, .pure, 0, ⟨(some 83), none, .plain (.mov (.tmp 82))⟩, [], []⟩,
         ⟨3, .pure, 0, ⟨(some 84), (some (83, true)), .plain (.mov (.tmp 4))⟩, [], []⟩,
         ⟨4, .pure, 0, ⟨(some 85), (some (83, true)), .plain (.mov (.tmp 0))⟩, [], []⟩,
         ⟨5, .pure, 0, ⟨(some 86), (some (83, true)), .plain (.mov (.tmp 1))⟩, [], []⟩,
         ⟨6, .pure, 0, ⟨(some 87), (some (83, true)), .plain (.bin .sub (.tmp 86) (.const (.int .i64 1)))⟩, [], []⟩,
         ⟨7, .pure, 0, ⟨(some 88), (some (83, true)), .plain (.iaddr none 2 (.tmp 85) (.tmp 87))⟩, [], []⟩,
         ⟨8, .read, 0, ⟨(some 89), (some (83, true)), .plain (.load (some 2) (.tmp 88))⟩, [], []⟩,
         ⟨9, .pure, 0, ⟨(some 90), (some (83, true)), .plain (.mov (.tmp 0))⟩, [], []⟩,
         ⟨10, .pure, 0, ⟨(some 91), (some (83, true)), .plain (.mov (.tmp 13))⟩, [], []⟩,
         ⟨11, .pure, 0, ⟨(some 92), (some (83, true)), .plain (.iaddr none 2 (.tmp 90) (.tmp 91))⟩, [], []⟩,
         ⟨12, .read, 0, ⟨(some 93), (some (83, true)), .plain (.load (some 2) (.tmp 92))⟩, [], []⟩,
         ⟨13, .chain, 0, ⟨(some 94), (some (83, true)), .callv (.tmp 84) [(.tmp 89), (.tmp 93)]⟩, [], []⟩,
         ⟨14, .pure, 0, ⟨(some 95), (some (83, true)), .plain (.bin .lss (.tmp 94) (.const (.int .i64 0)))⟩, [], []⟩,
         ⟨15, .pure, 0, ⟨(some 96), (some (83, true)), .plain (.un .not (.tmp 95))⟩, [], []⟩,
         ⟨16, .pure, 0, ⟨(some 97), none, .plain (.pick (.tmp 83) (.tmp 96) (.const (.bool false)))⟩, [], []⟩])
      (.cond (.tmp 97)
       (.both (.seq [⟨(some 98), none, .plain (.mov (.tmp 0))⟩,
          ⟨(some 99), none, .plain (.mov (.tmp 1))⟩,
          ⟨(some 100), none, .plain (.mov (.tmp 2))⟩,
          ⟨(some 101), none, .plain (.mov (.tmp 13))⟩,
          ⟨(some 102), none, .plain (.mov (.tmp 4))⟩,
          ⟨(some 103), none, .call 131 [(.tmp 98), (.tmp 99), (.tmp 100), (.tmp 101), (.tmp 102)]⟩,
          ⟨(some 15), none, .plain (.mov (.tmp 103))⟩])
       (.both (.seq [⟨(some 104), none, .plain (.mov (.tmp 15))⟩,
          ⟨(some 1), none, .plain (.mov (.tmp 104))⟩])
       (.exit 1)))
       .skip))
     (.both (.seq [⟨(some 106), none, .plain (.mov (.tmp 0))⟩,
        ⟨(some 107), none, .plain (.mov (.tmp 1))⟩,
        ⟨(some 108), none, .plain (.mov (.tmp 2))⟩,
        ⟨(some 109), none, .plain (.mov (.tmp 13))⟩,
        ⟨(some 110), none, .plain (.mov (.tmp 4))⟩,
        ⟨(some 111), none, .call 132 [(.tmp 106), (.tmp 107), (.tmp 108), (.tmp 109), (.tmp 110)]⟩,
        ⟨(some 105), none, .plain (.mov (.tmp 111))⟩,
        ⟨(some 112), none, .plain (.extract (.tmp 105) 0)⟩,
        ⟨(some 113), none, .plain (.extract (.tmp 105) 1)⟩,
        ⟨(some 16), none, .plain (.mov (.tmp 112))⟩,
        ⟨(some 17), none, .plain (.mov (.tmp 113))⟩])
     (.both (.seq [⟨(some 114), none, .plain (.mov (.tmp 17))⟩,
        ⟨(some 11), none, .plain (.mov (.tmp 114))⟩])
     (.both (.seq [⟨(some 115), none, .plain (.mov (.tmp 16))⟩,
        ⟨(some 116), none, .plain (.mov (.tmp 1))⟩,
        ⟨(some 117), none, .plain (.bin .sub (.tmp 115) (.tmp 116))⟩,
        ⟨(some 118), none, .plain (.mov (.tmp 2))⟩,
        ⟨(some 119), none, .plain (.mov (.tmp 16))⟩,
        ⟨(some 120), none, .plain (.bin .sub (.tmp 118) (.tmp 119))⟩,
        ⟨(some 18), none, .plain (.mov (.tmp 117))⟩,
        ⟨(some 19), none, .plain (.mov (.tmp 120))⟩])
     (.both (.seq [⟨(some 121), none, .plain (.mov (.tmp 12))⟩,
        ⟨(some 122), none, .plain (.bin .quo (.tmp 121) (.const (.int .i64 8)))⟩,
        ⟨(some 20), none, .plain (.mov (.tmp 122))⟩])
     (.both (.seq [⟨(some 123), none, .plain (.mov (.tmp 18))⟩,
        ⟨(some 124), none, .plain (.mov (.tmp 19))⟩,
        ⟨(some 125), none, .plain (.bin .lss (.tmp 123) (.tmp 124))⟩])
     (.cond (.tmp 125)
      (.both (.seq [⟨(some 126), none, .plain (.mov (.tmp 18))⟩,
         ⟨(some 127), none, .plain (.mov (.tmp 20))⟩,
         ⟨(some 128), none, .plain (.bin .geq (.tmp 126) (.tmp 127))⟩,
         ⟨(some 10), none, .plain (.mov (.tmp 128))⟩])
      (.both (.seq [⟨(some 129), none, .plain (.mov (.tmp 0))⟩,
         ⟨(some 130), none, .plain (.mov (.tmp 1))⟩,
         ⟨(some 131), none, .plain (.mov (.tmp 16))⟩,
         ⟨(some 132), none, .plain (.mov (.tmp 3))⟩,
         ⟨(some 133), none, .plain (.mov (.tmp 4))⟩,
         ⟨(some 134), none, .call 117 [(.tmp 129), (.tmp 130), (.tmp 131), (.tmp 132), (.tmp 133)]⟩])
      (.seq [⟨(some 135), none, .plain (.mov (.tmp 16))⟩,
        ⟨(some 136), none, .plain (.bin .add (.tmp 135) (.const (.int .i64 1)))⟩,
        ⟨(some 1), none, .plain (.mov (.tmp 136))⟩])))
      (.both (.seq [⟨(some 137), none, .plain (.mov (.tmp 19))⟩,
         ⟨(some 138), none, .plain (.mov (.tmp 20))⟩,
         ⟨(some 139), none, .plain (.bin .geq (.tmp 137) (.tmp 138))⟩,
         ⟨(some 10), none, .plain (.mov (.tmp 139))⟩])
      (.both (.seq [⟨(some 140), none, .plain (.mov (.tmp 0))⟩,
         ⟨(some 141), none, .plain (.mov (.tmp 16))⟩,
         ⟨(some 142), none, .plain (.bin .add (.tmp 141) (.const (.int .i64 1)))⟩,
         ⟨(some 143), none, .plain (.mov (.tmp 2))⟩,
         ⟨(some 144), none, .plain (.mov (.tmp 3))⟩,
         ⟨(some 145), none, .plain (.mov (.tmp 4))⟩,
         ⟨(some 146), none, .call 117 [(.tmp 140), (.tmp 142), (.tmp 143), (.tmp 144), (.tmp 145)]⟩])
      (.seq [⟨(some 147), none, .plain (.mov (.tmp 16))⟩,
        ⟨(some 2), none, .plain (.mov (.tmp 147))⟩]))))))))))))))))))))))⟩
/-- math/bits.Len -/
def a118 : AFunc := ⟨1, [.tmp 2],
  (.both (.seq [⟨(some 2), none, .plain (.mov (.const (.int .i64 0)))⟩])
  (.both (.cond (.const (.bool false))
    (.both (.seq [⟨(some 3), none, .plain (.mov (.tmp 0))⟩,
       ⟨(some 4), none, .plain (.conv (.int .u32) (.tmp 3))⟩,
       ⟨(some 5), none, .call 133 [(.tmp 4)]⟩,
       ⟨(some 2), none, .plain (.mov (.tmp 5))⟩])
    .ret)
    .skip)
  (.both (.seq [⟨(some 6), none, .plain (.mov (.tmp 0))⟩,
     ⟨(some 7), none, .call 134 [(.tmp 6)]⟩,
     ⟨(some 2), none, .plain (.mov (.tmp 7))⟩])
  .ret)))⟩
/-- cmp.isNaN[int64] -/
def a119 : AFunc := ⟨1, [.tmp 2],
  (.both (.seq [⟨(some 2), none, .plain (.mov (.const (.bool false)))⟩])
  (.both (.seq [⟨(some 3), none, .plain (.mov (.tmp 0))⟩,
     ⟨(some 4), none, .plain (.mov (.tmp 0))⟩,
     ⟨(some 5), none, .plain (.bin .neq (.tmp 3) (.tmp 4))⟩,
     ⟨(some 2), none, .plain (.mov (.tmp 5))⟩])
  .ret))⟩
/-- (fettle/extent.Set).All$1 -/
def a120 : AFunc := ⟨2, [],
  (.both (.seq [⟨(some 5), none, .plain (.load none (.tmp 1))⟩,
     ⟨(some 6), none, .call 95 [(.tmp 5)]⟩,
     ⟨(some 7), none, .plain (.len .sl (.tmp 6))⟩,
     ⟨(some 8), none, .plain (.mov (.const (.int .i64 0)))⟩])
  (.block 0 (.loop (.both (.seq [⟨(some 9), none, .plain (.bin .lss (.tmp 8) (.tmp 7))⟩])
    (.both (.cond (.tmp 9)
      .skip
      (.exit 0))
    (.both (.block 1 (.both (.seq [⟨(some 10), none, .plain (.mov (.tmp 8))⟩,
         ⟨(some 11), none, .plain (.iaddr none 2 (.tmp 6) (.tmp 8))⟩,
         ⟨(some 12), none, .plain (.load (some 2) (.tmp 11))⟩,
         ⟨(some 4), none, .plain (.alloc [(.int .i64 0), (.int .i64 0)])⟩,
         ⟨(some 3), none, .plain (.mov (.tmp 10))⟩,
         ⟨none, none, .plain (.store 2 (.tmp 4) (.tmp 12))⟩])
      (.both (.seq [⟨(some 13), none, .plain (.mov (.tmp 0))⟩,
         ⟨(some 14), none, .plain (.mov (.tmp 3))⟩,
         ⟨(some 15), none, .plain (.load (some 2) (.tmp 4))⟩,
         ⟨(some 16), none, .callv (.tmp 13) [(.tmp 14), (.tmp 15)]⟩,
         ⟨(some 17), none, .plain (.un .not (.tmp 16))⟩])
      (.cond (.tmp 17)
       .ret
       .skip))))
    (.seq [⟨(some 18), none, .plain (.bin .add (.tmp 8) (.const (.int .i64 1)))⟩,
      ⟨(some 8), none, .plain (.mov (.tmp 18))⟩])))))))⟩
/-- slices.insertionSortCmpFunc[fettle/api.Ext] -/
def a125 : AFunc := ⟨4, [],
  (.both (.seq [⟨(some 10), none, .plain (.mov (.tmp 1))⟩,
     ⟨(some 11), none, .plain (.bin .add (.tmp 10) (.const (.int .i64 1)))⟩,
     ⟨(some 8), none, .plain (.mov (.tmp 11))⟩])
  (.block 0 (.loop (.both (.both (.seq [⟨(some 12), none, .plain (.mov (.tmp 8))⟩,
        ⟨(some 13), none, .plain (.mov (.tmp 2))⟩,
        ⟨(some 14), none, .plain (.bin .lss (.tmp 12) (.tmp 13))⟩])
     (.cond (.tmp 14)
      .skip
      (.exit 0)))
    (.both (.block 1 (.both (.seq [⟨(some 17), none, .plain (.mov (.tmp 8))⟩,
         ⟨(some 9), none, .plain (.mov (.tmp 17))⟩])
      (.block 2 (.loop (.both (.both (.draw 0 [⟨0, .pure, 0, ⟨(some 18), none, .plain (.mov (.tmp 9))⟩, [], []⟩,
            ⟨1, .pure, 0, ⟨(some 19), none, .plain (.mov (.tmp 1))⟩, [], []⟩,
            ⟨2, .pure, 0, ⟨(some 20), none, .plain (.bin .gtr (.tmp 18) (.tmp 19))⟩, [], []⟩,
            ⟨3, .pure, 0, ⟨(some 21), none, .plain (.mov (.tmp 20))⟩, [], []⟩,
            ⟨4, .pure, 0, ⟨(some 22), (some (21, true)), .plain (.mov (.tmp 3))⟩, [], []⟩,
            ⟨5, .pure, 0, ⟨(some 23), (some (21, true)), .plain (.mov (.tmp 0))⟩, [], []⟩,
            ⟨6, .pure, 0, ⟨(some 24), (some (21, true)), .plain (.mov (.tmp 9))⟩, [], []⟩,
            ⟨7, .pure, 0, ⟨(some 25), (some (21, true)), .plain (.iaddr none 2 (.tmp 23) (.tmp 24))⟩, [], []⟩,
            ⟨8, .read, 0, ⟨(some 26), (some (21, true)), .plain (.load (some 2) (.tmp 25))⟩, [], []⟩,
            ⟨9, .pure, 0, ⟨(some 27), (some (21, true)), .plain (.mov (.tmp 0))⟩, [], []⟩,
            ⟨10, .pure, 0, ⟨(some 28), (some (21, true)), .plain (.mov (.tmp 9))⟩, [], []⟩,
            ⟨11, .pure, 0, ⟨(some 29), (some (21, true)), .plain (.bin .sub (.tmp 28) (.const (.int .i64 1)))⟩, [], []⟩,
            ⟨12, .pure, 0, ⟨(some 30), (some (21, true)), .plain (.iaddr none 2 (.tmp 27) (.tmp 29))⟩, [], []⟩,
            ⟨13, .read, 0, ⟨(some 31), (some (21, true)), .plain (.load (some 2) (.tmp 30))⟩, [], []⟩,
            ⟨14, .chain, 0, ⟨(some 32), (some (21, true)), .callv (.tmp 22) [(.tmp 26), (.tmp 31)]⟩, [], []⟩,
            ⟨15, .pure, 0, ⟨(some 33), (some (21, true)), .plain (.bin .lss (.tmp 32) (.const (.int .i64 0)))⟩, [], []⟩,
            ⟨16, .pure, 0, ⟨(some 34), none, .plain (.pick (.tmp 21) (.tmp 33) (.const (.bool false)))⟩, [], []⟩])
         (.cond (.tmp 34)
          .skip
          (.exit 2)))
        (.both (.block 3 (.draw 0 [⟨0, .pure, 0, ⟨(some 37), none, .plain (.mov (.tmp 0))⟩, [], []⟩,
            ⟨1, .pure, 0, ⟨(some 38), none, .plain (.mov (.tmp 9))⟩, [], []⟩,
            ⟨2, .pure, 0, ⟨(some 39), none, .plain (.mov (.tmp 0))⟩, [], []⟩,
            ⟨3, .pure, 0, ⟨(some 40), none, .plain (.mov (.tmp 9))⟩, [], []⟩,
            ⟨4, .pure, 0, ⟨(some 41), none, .plain (.bin .sub (.tmp 40) (.const (.int .i64 1)))⟩, [], []⟩,
            ⟨5, .pure, 0, ⟨(some 42), none, .plain (.mov (.tmp 0))⟩, [], []⟩,
            ⟨6, .pure, 0, ⟨(some 43), none, .plain (.mov (.tmp 9))⟩, [], []⟩,
            ⟨7, .pure, 0, ⟨(some 44), none, .plain (.bin .sub (.tmp 43) (.const (.int .i64 1)))⟩, [], []⟩,
            ⟨8, .pure, 0, ⟨(some 45), none, .plain (.iaddr none 2 (.tmp 42) (.tmp 44))⟩, [], []⟩,
            ⟨9, .read, 0, ⟨(some 46), none, .plain (.load (some 2) (.tmp 45))⟩, [], []⟩,
            ⟨10, .pure, 0, ⟨(some 47), none, .plain (.mov (.tmp 0))⟩, [], []⟩,
            ⟨11, .pure, 0, ⟨(some 48), none, .plain (.mov (.tmp 9))⟩, [], []⟩,
            ⟨12, .pure, 0, ⟨(some 49), none, .plain (.iaddr none 2 (.tmp 47) (.tmp 48))⟩, [], []⟩,
            ⟨13, .read, 0, ⟨(some 50), none, .plain (.load (some 2) (.tmp 49))⟩, [], []⟩,
            ⟨14, .pure, 0, ⟨(some 51), none, .plain (.iaddr none 2 (.tmp 37) (.tmp 38))⟩, [], []⟩,
            ⟨15, .chain, 0, ⟨none, none, .plain (.store 2 (.tmp 51) (.tmp 46))⟩, [], []⟩,
            ⟨16, .pure, 0, ⟨(some 52), none, .plain (.iaddr none 2 (.tmp 39) (.tmp 41))⟩, [], []⟩,
            ⟨17, .chain, 0, ⟨none, none, .plain (.store 2 (.tmp 52) (.tmp 50))⟩, [], []⟩]))
        (.seq [⟨(some 35), none, .plain (.mov (.tmp 9))⟩,
          ⟨(some 36), none, .plain (.bin .sub (.tmp 35) (.const (.int .i64 1)))⟩,
          ⟨(some 9), none, .plain (.mov (.tmp 36))⟩])))))))
    (.seq [⟨(some 15), none, .plain (.mov (.tmp 8))⟩,
      ⟨(some 16), none, .plain (.bin .add (.tmp 15) (.const (.int .i64 1)))⟩,
      ⟨(some 8), none, .plain (.mov (.tmp 16))⟩]))))))⟩
/-- slices.heapSortCmpFunc[fettle/api.Ext] -/
def a126 : AFunc := ⟨4, [],
  (.both (.seq [⟨(some 13), none, .plain (.mov (.tmp 1))⟩,
     ⟨(some 8), none, .plain (.mov (.tmp 13))⟩])
  (.both (.seq [⟨(some 9), none, .plain (.mov (.const (.int .i64 0)))⟩])
  (.both (.seq [⟨(some 14), none, .plain (.mov (.tmp 2))⟩,
     ⟨(some 15), none, .plain (.mov (.tmp 1))⟩,
     ⟨(some 16), none, .plain (.bin .sub (.tmp 14) (.tmp 15))⟩,
     ⟨(some 10), none, .plain (.mov (.tmp 16))⟩])
  (.both (.both (.seq [⟨(some 17), none, .plain (.mov (.tmp 10))⟩,
      ⟨(some 18), none, .plain (.bin .sub (.tmp 17) (.const (.int .i64 1)))⟩,
      ⟨(some 19), none, .plain (.bin .quo (.tmp 18) (.const (.int .i64 2)))⟩,
      ⟨(some 11), none, .plain (.mov (.tmp 19))⟩])
   (.block 0 (.loop (.both (.both (.seq [⟨(some 20), none, .plain (.mov (.tmp 11))⟩,
         ⟨(some 21), none, .plain (.bin .geq (.tmp 20) (.const (.int .i64 0)))⟩])
      (.cond (.tmp 21)
       .skip
       (.exit 0)))
     (.both (.block 1 (.seq [⟨(some 24), none, .plain (.mov (.tmp 0))⟩,
         ⟨(some 25), none, .plain (.mov (.tmp 11))⟩,
         ⟨(some 26), none, .plain (.mov (.tmp 10))⟩,
         ⟨(some 27), none, .plain (.mov (.tmp 8))⟩,
         ⟨(some 28), none, .plain (.mov (.tmp 3))⟩,
         ⟨(some 29), none, .call 136 [(.tmp 24), (.tmp 25), (.tmp 26), (.tmp 27), (.tmp 28)]⟩]))
     (.seq [⟨(some 22), none, .plain (.mov (.tmp 11))⟩,
       ⟨(some 23), none, .plain (.bin .sub (.tmp 22) (.const (.int .i64 1)))⟩,
       ⟨(some 11), none, .plain (.mov (.tmp 23))⟩]))))))
  (.both (.seq [⟨(some 30), none, .plain (.mov (.tmp 10))⟩,
     ⟨(some 31), none, .plain (.bin .sub (.tmp 30) (.const (.int .i64 1)))⟩,
     ⟨(some 12), none, .plain (.mov (.tmp 31))⟩])
  (.block 2 (.loop (.both (.both (.seq [⟨(some 32), none, .plain (.mov (.tmp 12))⟩,
        ⟨(some 33), none, .plain (.bin .geq (.tmp 32) (.const (.int .i64 0)))⟩])
     (.cond (.tmp 33)
      .skip
      (.exit 2)))
    (.both (.block 3 (.both (.draw 0 [⟨0, .pure, 0, ⟨(some 36), none, .plain (.mov (.tmp 0))⟩, [], []⟩,
         ⟨1, .pure, 0, ⟨(some 37), none, .plain (.mov (.tmp 8))⟩, [], []⟩,
         ⟨2, .pure, 0, ⟨(some 38), none, .plain (.mov (.tmp 0))⟩, [], []⟩,
         ⟨3, .pure, 0, ⟨(some 39), none, .plain (.mov (.tmp 8))⟩, [], []⟩,
         ⟨4, .pure, 0, ⟨(some 40), none, .plain (.mov (.tmp 12))⟩, [], []⟩,
         ⟨5, .pure, 0, ⟨(some 41), none, .plain (.bin .add (.tmp 39) (.tmp 40))⟩, [], []⟩,
         ⟨6, .pure, 0, ⟨(some 42), none, .plain (.mov (.tmp 0))⟩, [], []⟩,
         ⟨7, .pure, 0, ⟨(some 43), none, .plain (.mov (.tmp 8))⟩, [], []⟩,
         ⟨8, .pure, 0, ⟨(some 44), none, .plain (.mov (.tmp 12))⟩, [], []⟩,
         ⟨9, .pure, 0, ⟨(some 45), none, .plain (.bin .add (.tmp 43) (.tmp 44))⟩, [], []⟩,
         ⟨10, .pure, 0, ⟨(some 46), none, .plain (.iaddr none 2 (.tmp 42) (.tmp 45))⟩, [], []⟩,
         ⟨11, .read, 0, ⟨(some 47), none, .plain (.load (some 2) (.tmp 46))⟩, [], []⟩,
         ⟨12, .pure, 0, ⟨(some 48), none, .plain (.mov (.tmp 0))⟩, [], []⟩,
         ⟨13, .pure, 0, ⟨(some 49), none, .plain (.mov (.tmp 8))⟩, [], []⟩,
         ⟨14, .pure, 0, ⟨(some 50), none, .plain (.iaddr none 2 (.tmp 48) (.tmp 49))⟩, [], []⟩,
         ⟨15, .read, 0, ⟨(some 51), none, .plain (.load (some 2) (.tmp 50))⟩, [], []⟩,
         ⟨16, .pure, 0, ⟨(some 52), none, .plain (.iaddr none 2 (.tmp 36) (.tmp 37))⟩, [], []⟩,
         ⟨17, .chain, 0, ⟨none, none, .plain (.store 2 (.tmp 52) (.tmp 47))⟩, [], []⟩,
         ⟨18, .pure, 0, ⟨(some 53), none, .plain (.iaddr none 2 (.tmp 38) (.tmp 41))⟩, [], []⟩,
         ⟨19, .chain, 0, ⟨none, none, .plain (.store 2 (.tmp 53) (.tmp 51))⟩, [], []⟩])
      (.seq [⟨(some 54), none, .plain (.mov (.tmp 0))⟩,
        ⟨(some 55), none, .plain (.mov (.tmp 9))⟩,
        ⟨(some 56), none, .plain (.mov (.tmp 12))⟩,
        ⟨(some 57), none, .plain (.mov (.tmp 8))⟩,
        ⟨(some 58), none, .plain (.mov (.tmp 3))⟩,
        ⟨(some 59), none, .call 136 [(.tmp 54), (.tmp 55), (.tmp 56), (.tmp 57), (.tmp 58)]⟩])))
    (.seq [⟨(some 34), none, .plain (.mov (.tmp 12))⟩,
      ⟨(some 35), none, .plain (.bin .sub (.tmp 34) (.const (.int .i64 1)))⟩,
      ⟨(some 12), none, .plain (.mov (.tmp 35))⟩]))))))))))⟩
/-- slices.breakPatternsCmpFunc[fettle/api.Ext] -/
def a127 : AFunc := ⟨4, [],
  (.both (.seq [⟨(some 13), none, .plain (.mov (.tmp 2))⟩,
     ⟨(some 14), none, .plain (.mov (.tmp 1))⟩,
     ⟨(some 15), none, .plain (.bin .sub (.tmp 13) (.tmp 14))⟩,
     ⟨(some 8), none, .plain (.mov (.tmp 15))⟩])
  (.both (.seq [⟨(some 16), none, .plain (.mov (.tmp 8))⟩,
     ⟨(some 17), none, .plain (.bin .geq (.tmp 16) (.const (.int .i64 8)))⟩])
  (.cond (.tmp 17)
   (.both (.seq [⟨(some 18), none, .plain (.mov (.tmp 8))⟩,
      ⟨(some 19), none, .plain (.conv (.int .u64) (.tmp 18))⟩,
      ⟨(some 9), none, .plain (.alloc [(.int .u64 0)])⟩,
      ⟨none, none, .plain (.store 1 (.tmp 9) (.tmp 19))⟩])
   (.both (.seq [⟨(some 20), none, .plain (.mov (.tmp 8))⟩,
      ⟨(some 21), none, .call 137 [(.tmp 20)]⟩,
      ⟨(some 10), none, .plain (.mov (.tmp 21))⟩])
   (.both (.seq [⟨(some 22), none, .plain (.mov (.tmp 1))⟩,
      ⟨(some 23), none, .plain (.mov (.tmp 8))⟩,
      ⟨(some 24), none, .plain (.bin .quo (.tmp 23) (.const (.int .i64 4)))⟩,
      ⟨(some 25), none, .plain (.bin .mul (.tmp 24) (.const (.int .i64 2)))⟩,
      ⟨(some 26), none, .plain (.bin .add (.tmp 22) (.tmp 25))⟩,
      ⟨(some 27), none, .plain (.bin .sub (.tmp 26) (.const (.int .i64 1)))⟩,
      ⟨(some 11), none, .plain (.mov (.tmp 27))⟩])
   (.block 0 (.loop (.both (.both (.seq [⟨(some 28), none, .plain (.mov (.tmp 11))⟩,
         ⟨(some 29), none, .plain (.mov (.tmp 1))⟩,
         ⟨(some 30), none, .plain (.mov (.tmp 8))⟩,
         ⟨(some 31), none, .plain (.bin .quo (.tmp 30) (.const (.int .i64 4)))⟩,
         ⟨(some 32), none, .plain (.bin .mul (.tmp 31) (.const (.int .i64 2)))⟩,
         ⟨(some 33), none, .plain (.bin .add (.tmp 29) (.tmp 32))⟩,
         ⟨(some 34), none, .plain (.bin .add (.tmp 33) (.const (.int .i64 1)))⟩,
         ⟨(some 35), none, .plain (.bin .leq (.tmp 28) (.tmp 34))⟩])
      (.cond (.tmp 35)
       .skip
       (.exit 0)))
     (.both (.block 1 (.both (.seq [⟨(some 38), none, .call 138 [(.tmp 9)]⟩,
          ⟨(some 39), none, .plain (.mov (.tmp 10))⟩,
          ⟨(some 40), none, .plain (.bin .sub (.tmp 39) (.const (.int .u64 1)))⟩,
          ⟨(some 41), none, .plain (.bin .and (.tmp 38) (.tmp 40))⟩,
          ⟨(some 42), none, .plain (.conv (.int .i64) (.tmp 41))⟩,
          ⟨(some 12), none, .plain (.mov (.tmp 42))⟩])
       (.both (.both (.seq [⟨(some 43), none, .plain (.mov (.tmp 12))⟩,
           ⟨(some 44), none, .plain (.mov (.tmp 8))⟩,
           ⟨(some 45), none, .plain (.bin .geq (.tmp 43) (.tmp 44))⟩])
        (.cond (.tmp 45)
         (.seq [⟨(some 46), none, .plain (.mov (.tmp 12))⟩,
           ⟨(some 47), none, .plain (.mov (.tmp 8))⟩,
           ⟨(some 48), none, .plain (.bin .sub (.tmp 46) (.tmp 47))⟩,
           ⟨(some 12), none, .plain (.mov (.tmp 48))⟩])
         .skip))
       (.draw 0 [⟨0, .pure, 0, ⟨(some 49), none, .plain (.mov (.tmp 0))⟩, [], []⟩,
         ⟨1, .pure, 0, ⟨(some 50), none, .plain (.mov (.tmp 11))⟩, [], []⟩,
         ⟨2, .pure, 0, ⟨(some 51), none, .plain (.mov (.tmp 0))⟩, [], []⟩,
         ⟨3, .pure, 0, ⟨(some 52), none, .plain (.mov (.tmp 1))⟩, [], []⟩,
         ⟨4, .pure, 0, ⟨(some 53), none, .plain (.mov (.tmp 12))⟩, [], []⟩,
         ⟨5, .pure, 0, ⟨(some 54), none, .plain (.bin .add (.tmp 52) (.tmp 53))⟩, [], []⟩,
         ⟨6, .pure, 0, ⟨(some 55), none, .plain (.mov (.tmp 0))⟩, [], []⟩,
         ⟨7, .pure, 0, ⟨(some 56), none, .plain (.mov (.tmp 1))⟩, [], []⟩,
         ⟨8, .pure, 0, ⟨(some 57), none, .plain (.mov (.tmp 12))⟩, [], []⟩,
         ⟨9, .pure, 0, ⟨(some 58), none, .plain (.bin .add (.tmp 56) (.tmp 57))⟩, [], []⟩,
         ⟨10, .pure, 0, ⟨(some 59), none, .plain (.iaddr none 2 (.tmp 55) (.tmp 58))⟩, [], []⟩,
         ⟨11, .read, 0, ⟨(some 60), none, .plain (.load (some 2) (.tmp 59))⟩, [], []⟩,
         ⟨12, .pure, 0, ⟨(some 61), none, .plain (.mov (.tmp 0))⟩, [], []⟩,
         ⟨13, .pure, 0, ⟨(some 62), none, .plain (.mov (.tmp 11))⟩, [], []⟩,
         ⟨14, .pure, 0, ⟨(some 63), none, .plain (.iaddr none 2 (.tmp 61) (.tmp 62))⟩, [], []⟩,
         ⟨15, .read, 0, ⟨(some 64), none, .plain (.load (some 2) (.tmp 63))⟩, [], []⟩,
         ⟨16, .pure, 0, ⟨(some 65), none, .plain (.iaddr none 2 (.tmp 49) (.tmp 50))⟩, [], []⟩,
         ⟨17, .chain, 0, ⟨none, none, .plain (.store 2 (.tmp 65) (.tmp 60))⟩, [], []⟩,
         ⟨18, .pure, 0, ⟨(some 66), none, .plain (.iaddr none 2 (.tmp 51) (.tmp 54))⟩, [], []⟩,
         ⟨19, .chain, 0, ⟨none, none, .plain (.store 2 (.tmp 66) (.tmp 64))⟩, [], []⟩]))))
     (.seq [⟨(some 36), none, .plain (.mov (.tmp 11))⟩,
       ⟨(some 37), none, .plain (.bin .add (.tmp 36) (.const (.int .i64 1)))⟩,
       ⟨(some 11), none, .plain (.mov (.tmp 37))⟩]))))))))
   .skip)))⟩
/-- slices.choosePivotCmpFunc[fettle/api.Ext] -/
def a128 : AFunc := ⟨4, [.tmp 8, .tmp 9],
  (.both (.seq [⟨(some 8), none, .plain (.mov (.const (.int .i64 0)))⟩,
     ⟨(some 9), none, .plain (.mov (.const (.int .i64 0)))⟩])
  (.both (.seq [⟨(some 15), none, .plain (.mov (.tmp 2))⟩,
     ⟨(some 16), none, .plain (.mov (.tmp 1))⟩,
     ⟨(some 17), none, .plain (.bin .sub (.tmp 15) (.tmp 16))⟩,
     ⟨(some 10), none, .plain (.mov (.tmp 17))⟩])
  (.both (.seq [⟨(some 11), none, .plain (.alloc [(.int .i64 0)])⟩])
  (.both (.seq [⟨(some 18), none, .plain (.mov (.tmp 1))⟩,
     ⟨(some 19), none, .plain (.mov (.tmp 10))⟩,
     ⟨(some 20), none, .plain (.bin .quo (.tmp 19) (.const (.int .i64 4)))⟩,
     ⟨(some 21), none, .plain (.bin .mul (.tmp 20) (.const (.int .i64 1)))⟩,
     ⟨(some 22), none, .plain (.bin .add (.tmp 18) (.tmp 21))⟩,
     ⟨(some 12), none, .plain (.mov (.tmp 22))⟩])
  (.both (.seq [⟨(some 23), none, .plain (.mov (.tmp 1))⟩,
     ⟨(some 24), none, .plain (.mov (.tmp 10))⟩,
     ⟨(some 25), none, .plain (.bin .quo (.tmp 24) (.const (.int .i64 4)))⟩,
     ⟨(some 26), none, .plain (.bin .mul (.tmp 25) (.const (.int .i64 2)))⟩,
     ⟨(some 27), none, .plain (.bin .add (.tmp 23) (.tmp 26))⟩,
     ⟨(some 13), none, .plain (.mov (.tmp 27))⟩])
  (.both (.seq [⟨(some 28), none, .plain (.mov (.tmp 1))⟩,
     ⟨(some 29), none, .plain (.mov (.tmp 10))⟩,
     ⟨(some 30), none, .plain (.bin .quo (.tmp 29) (.const (.int .i64 4)))⟩,
     ⟨(some 31), none, .plain (.bin .mul (.tmp 30) (.const (.int .i64 3)))⟩,
     ⟨(some 32), none, .plain (.bin .add (.tmp 28) (.tmp 31))⟩,
     ⟨(some 14), none, .plain (.mov (.tmp 32))⟩])
  (.both (.both (.seq [⟨(some 33), none, .plain (.mov (.tmp 10))⟩,
      ⟨(some 34), none, .plain (.bin .geq (.tmp 33) (.const (.int .i64 8)))⟩])
   (.cond (.tmp 34)
    (.both (.both (.seq [⟨(some 35), none, .plain (.mov (.tmp 10))⟩,
        ⟨(some 36), none, .plain (.bin .geq (.tmp 35) (.const (.int .i64 50)))⟩])
     (.cond (.tmp 36)
      (.both (.seq [⟨(some 37), none, .plain (.mov (.tmp 0))⟩,
         ⟨(some 38), none, .plain (.mov (.tmp 12))⟩,
         ⟨(some 39), none, .plain (.mov (.tmp 3))⟩,
         ⟨(some 40), none, .call 139 [(.tmp 37), (.tmp 38), (.tmp 11), (.tmp 39)]⟩,
         ⟨(some 12), none, .plain (.mov (.tmp 40))⟩])
      (.both (.seq [⟨(some 41), none, .plain (.mov (.tmp 0))⟩,
         ⟨(some 42), none, .plain (.mov (.tmp 13))⟩,
         ⟨(some 43), none, .plain (.mov (.tmp 3))⟩,
         ⟨(some 44), none, .call 139 [(.tmp 41), (.tmp 42), (.tmp 11), (.tmp 43)]⟩,
         ⟨(some 13), none, .plain (.mov (.tmp 44))⟩])
      (.seq [⟨(some 45), none, .plain (.mov (.tmp 0))⟩,
        ⟨(some 46), none, .plain (.mov (.tmp 14))⟩,
        ⟨(some 47), none, .plain (.mov (.tmp 3))⟩,
        ⟨(some 48), none, .call 139 [(.tmp 45), (.tmp 46), (.tmp 11), (.tmp 47)]⟩,
        ⟨(some 14), none, .plain (.mov (.tmp 48))⟩])))
      .skip))
    (.seq [⟨(some 49), none, .plain (.mov (.tmp 0))⟩,
      ⟨(some 50), none, .plain (.mov (.tmp 12))⟩,
      ⟨(some 51), none, .plain (.mov (.tmp 13))⟩,
      ⟨(some 52), none, .plain (.mov (.tmp 14))⟩,
      ⟨(some 53), none, .plain (.mov (.tmp 3))⟩,
      ⟨(some 54), none, .call 140 [(.tmp 49), (.tmp 50), (.tmp 51), (.tmp 52), (.tmp 11), (.tmp 53)]⟩,
      ⟨(some 13), none, .plain (.mov (.tmp 54))⟩]))
    .skip))
  (.both (.seq [⟨(some 55), none, .plain (.load none (.tmp 11))⟩])
  (.block 0 (.both (.seq [⟨(some 58), none, .plain (.bin .eql (.tmp 55) (.const (.int .i64 0)))⟩,
      ⟨(some 57), none, .plain (.mov (.tmp 58))⟩])
   (.cond (.tmp 57)
    (.both (.seq [⟨(some 59), none, .plain (.mov (.tmp 13))⟩,
       ⟨(some 8), none, .plain (.mov (.tmp 59))⟩,
       ⟨(some 9), none, .plain (.mov (.const (.int .i64 1)))⟩])
    .ret)
    (.both (.seq [⟨(some 61), none, .plain (.bin .eql (.tmp 55) (.const (.int .i64 12)))⟩,
       ⟨(some 60), none, .plain (.mov (.tmp 61))⟩])
    (.cond (.tmp 60)
     (.both (.seq [⟨(some 62), none, .plain (.mov (.tmp 13))⟩,
        ⟨(some 8), none, .plain (.mov (.tmp 62))⟩,
        ⟨(some 9), none, .plain (.mov (.const (.int .i64 2)))⟩])
     .ret)
     (.both (.seq [⟨(some 56), none, .plain (.mov (.tmp 13))⟩,
        ⟨(some 8), none, .plain (.mov (.tmp 56))⟩,
        ⟨(some 9), none, .plain (.mov (.const (.int .i64 0)))⟩])
     .ret))))))))))))))⟩
/-- slices.reverseRangeCmpFunc[fettle/api.Ext] -/
def a129 : AFunc := ⟨4, [],
  (.both (.seq [⟨(some 10), none, .plain (.mov (.tmp 1))⟩,
     ⟨(some 8), none, .plain (.mov (.tmp 10))⟩])
  (.both (.seq [⟨(some 11), none, .plain (.mov (.tmp 2))⟩,
     ⟨(some 12), none, .plain (.bin .sub (.tmp 11) (.const (.int .i64 1)))⟩,
     ⟨(some 9), none, .plain (.mov (.tmp 12))⟩])
  (.block 0 (.loop (.both (.both (.seq [⟨(some 13), none, .plain (.mov (.tmp 8))⟩,
        ⟨(some 14), none, .plain (.mov (.tmp 9))⟩,
        ⟨(some 15), none, .plain (.bin .lss (.tmp 13) (.tmp 14))⟩])
     (.cond (.tmp 15)
      .skip
      (.exit 0)))
    (.block 1 (.both (.draw 0 [⟨0, .pure, 0, ⟨(some 16), none, .plain (.mov (.tmp 0))⟩, [], []⟩,
        ⟨1, .pure, 0, ⟨(some 17), none, .plain (.mov (.tmp 8))⟩, [], []⟩,
        ⟨2, .pure, 0, ⟨(some 18), none, .plain (.mov (.tmp 0))⟩, [], []⟩,
        ⟨3, .pure, 0, ⟨(some 19), none, .plain (.mov (.tmp 9))⟩, [], []⟩,
        ⟨4, .pure, 0, ⟨(some 20), none, .plain (.mov (.tmp 0))⟩, [], []⟩,
        ⟨5, .pure, 0, ⟨(some 21), none, .plain (.mov (.tmp 9))⟩, [], []⟩,
        ⟨6, .pure, 0, ⟨(some 22), none, .plain (.iaddr none 2 (.tmp 20) (.tmp 21))⟩, [], []⟩,
        ⟨7, .read, 0, ⟨(some 23), none, .plain (.load (some 2) (.tmp 22))⟩, [], []⟩,
        ⟨8, .pure, 0, ⟨(some 24), none, .plain (.mov (.tmp 0))⟩, [], []⟩,
        ⟨9, .pure, 0, ⟨(some 25), none, .plain (.mov (.tmp 8))⟩, [], []⟩,
        ⟨10, .pure, 0, ⟨(some 26), none, .plain (.iaddr none 2 (.tmp 24) (.tmp 25))⟩, [], []⟩,
        ⟨11, .read, 0, ⟨(some 27), none, .plain (.load (some 2) (.tmp 26))⟩, [], []⟩,
        ⟨12, .pure, 0, ⟨(some 28), none, .plain (.iaddr none 2 (.tmp 16) (.tmp 17))⟩, [], []⟩,
        ⟨13, .chain, 0, ⟨none, none, .plain (.store 2 (.tmp 28) (.tmp 23))⟩, [], []⟩,
        ⟨14, .pure, 0, ⟨(some 29), none, .plain (.iaddr none 2 (.tmp 18) (.tmp 19))⟩, [], []⟩,
        ⟨15, .chain, 0, ⟨none, none, .plain (.store 2 (.tmp 29) (.tmp 27))⟩, [], []⟩])
     (.both (.seq [⟨(some 30), none, .plain (.mov (.tmp 8))⟩,
        ⟨(some 31), none, .plain (.bin .add (.tmp 30) (.const (.int .i64 1)))⟩,
        ⟨(some 8), none, .plain (.mov (.tmp 31))⟩])
     (.seq [⟨(some 32), none, .plain (.mov (.tmp 9))⟩,
       ⟨(some 33), none, .plain (.bin .sub (.tmp 32) (.const (.int .i64 1)))⟩,
       ⟨(some 9), none, .plain (.mov (.tmp 33))⟩])))))))))⟩
/-- slices.partialInsertionSortCmpFunc[fettle/api.Ext] -/
def a130 : AFunc := ⟨4, [.tmp 8],
  (.both (.seq [⟨(some 8), none, .plain (.mov (.const (.bool false)))⟩])
  (.both (.seq [⟨(some 13), none, .plain (.mov (.tmp 1))⟩,
     ⟨(some 14), none, .plain (.bin .add (.tmp 13) (.const (.int .i64 1)))⟩,
     ⟨(some 9), none, .plain (.mov (.tmp 14))⟩])
  (.both (.both (.seq [⟨(some 10), none, .plain (.mov (.const (.int .i64 0)))⟩])
   (.block 0 (.loop (.both (.both (.seq [⟨(some 15), none, .plain (.mov (.tmp 10))⟩,
         ⟨(some 16), none, .plain (.bin .lss (.tmp 15) (.const (.int .i64 5)))⟩])
      (.cond (.tmp 16)
       .skip
       (.exit 0)))
     (.both (.block 1 (.both (.block 2 (.loop (.both (.both (.draw 0 [⟨0, .pure, 0, ⟨(some 19), none, .plain (.mov (.tmp 9))⟩, [], []⟩,
              ⟨1, .pure, 0, ⟨(some 20), none, .plain (.mov (.tmp 2))⟩, [], []⟩,
              ⟨2, .pure, 0, ⟨(some 21), none, .plain (.bin .lss (.tmp 19) (.tmp 20))⟩, [], []⟩,
              ⟨3, .pure, 0, ⟨(some 22), none, .plain (.mov (.tmp 21))⟩, [], []⟩,
              ⟨4, .pure, 0, ⟨(some 23), (some (22, true)), .plain (.mov (.tmp 3))⟩, [], []⟩,
              ⟨5, .pure, 0, ⟨(some 24), (some (22, true)), .plain (.mov (.tmp 0))⟩, [], []⟩,
              ⟨6, .pure, 0, ⟨(some 25), (some (22, true)), .plain (.mov (.tmp 9))⟩, [], []⟩,
              ⟨7, .pure, 0, ⟨(some 26), (some (22, true)), .plain (.iaddr none 2 (.tmp 24) (.tmp 25))⟩, [], []⟩,
              ⟨8, .read, 0, ⟨(some 27), (some (22, true)), .plain (.load (some 2) (.tmp 26))⟩, [], []⟩,
              ⟨9, .pure, 0, ⟨(some 28), (some (22, true)), .plain (.mov (.tmp 0))⟩, [], []⟩,
              ⟨10, .pure, 0, ⟨(some 29), (some (22, true)), .plain (.mov (.tmp 9))⟩, [], []⟩,
              ⟨11, .pure, 0, ⟨(some 30), (some (22, true)), .plain (.bin .sub (.tmp 29) (.const (.int .i64 1)))⟩, [], []⟩,
              ⟨12, .pure, 0, ⟨(some 31), (some (22, true)), .plain (.iaddr none 2 (.tmp 28) (.tmp 30))⟩, [], []⟩,
              ⟨13, .read, 0, ⟨(some 32), (some (22, true)), .plain (.load (some 2) (.tmp 31))⟩, [], []⟩,
              ⟨14, .chain, 0, ⟨(some 33), (some (22, true)), .callv (.tmp 23) [(.tmp 27), (.tmp 32)]⟩, [], []⟩,
              ⟨15, .pure, 0, ⟨(some 34), (some (22, true)), .plain (.bin .lss (.tmp 33) (.const (.int .i64 0)))⟩, [], []⟩,
              ⟨16, .pure, 0, ⟨(some 35), (some (22, true)), .plain (.un .not (.tmp 34))⟩, [], []⟩,
              ⟨17, .pure, 0, ⟨(some 36), none, .plain (.pick (.tmp 22) (.tmp 35) (.const (.bool false)))⟩, [], []⟩])
           (.cond (.tmp 36)
            .skip
            (.exit 2)))
          (.block 3 (.seq [⟨(some 37), none, .plain (.mov (.tmp 9))⟩,
             ⟨(some 38), none, .plain (.bin .add (.tmp 37) (.const (.int .i64 1)))⟩,
             ⟨(some 9), none, .plain (.mov (.tmp 38))⟩])))))
       (.both (.both (.seq [⟨(some 39), none, .plain (.mov (.tmp 9))⟩,
           ⟨(some 40), none, .plain (.mov (.tmp 2))⟩,
           ⟨(some 41), none, .plain (.bin .eql (.tmp 39) (.tmp 40))⟩])
        (.cond (.tmp 41)
         (.both (.seq [⟨(some 8), none, .plain (.mov (.const (.bool true)))⟩])
         .ret)
         .skip))
       (.both (.both (.seq [⟨(some 42), none, .plain (.mov (.tmp 2))⟩,
           ⟨(some 43), none, .plain (.mov (.tmp 1))⟩,
           ⟨(some 44), none, .plain (.bin .sub (.tmp 42) (.tmp 43))⟩,
           ⟨(some 45), none, .plain (.bin .lss (.tmp 44) (.const (.int .i64 50)))⟩])
        (.cond (.tmp 45)
         (.both (.seq [⟨(some 8), none, .plain (.mov (.const (.bool false)))⟩])
         .ret)
         .skip))
       (.both (.draw 0 [⟨0, .pure, 0, ⟨(some 46), none, .plain (.mov (.tmp 0))⟩, [], []⟩,
          ⟨1, .pure, 0, ⟨(some 47), none, .plain (.mov (.tmp 9))⟩, [], []⟩,
          ⟨2, .pure, 0, ⟨(some 48), none, .plain (.mov (.tmp 0))⟩, [], []⟩,
          ⟨3, .pure, 0, ⟨(some 49), none, .plain (.mov (.tmp 9))⟩, [], []⟩,
          ⟨4, .pure, 0, ⟨(some 50), none, .plain (.bin .sub (.tmp 49) (.const (.int .i64 1)))⟩, [], []⟩,
          ⟨5, .pure, 0, ⟨(some 51), none, .plain (.mov (.tmp 0))⟩, [], []⟩,
          ⟨6, .pure, 0, ⟨(some 52), none, .plain (.mov (.tmp 9))⟩, [], []⟩,
          ⟨7, .pure, 0, ⟨(some 53), none, .plain (.bin .sub (.tmp 52) (.const (.int .i64 1)))⟩, [], []⟩,
          ⟨8, .pure, 0, ⟨(some 54), none, .plain (.iaddr none 2 (.tmp 51) (.tmp 53))⟩, [], []⟩,
          ⟨9, .read, 0, ⟨(some 55), none, .plain (.load (some 2) (.tmp 54))⟩, [], []⟩,
          ⟨10, .pure, 0, ⟨(some 56), none, .plain (.mov (.tmp 0))⟩, [], []⟩,
          ⟨11, .pure, 0, ⟨(some 57), none, .plain (.mov (.tmp 9))⟩, [], []⟩,
          ⟨12, .pure, 0, ⟨(some 58), none, .plain (.iaddr none 2 (.tmp 56) (.tmp 57))⟩, [], []⟩,
          ⟨13, .read, 0, ⟨(some 59), none, .plain (.load (some 2) (.tmp 58))⟩, [], []⟩,
          ⟨14, .pure, 0, ⟨(some 60), none, .plain (.iaddr none 2 (.tmp 46) (.tmp 47))⟩, [], []⟩,
          ⟨15, .chain, 0, ⟨none, none, .plain (.store 2 (.tmp 60) (.tmp 55))⟩, [], []⟩,
          ⟨16, .pure, 0, ⟨(some 61), none, .plain (.iaddr none 2 (.tmp 48) (.tmp 50))⟩, [], []⟩,
          ⟨17, .chain, 0, ⟨none, none, .plain (.store 2 (.tmp 61) (.tmp 59))⟩, [], []⟩])
       (.both (.both (.seq [⟨(some 62), none, .plain (.mov (.tmp 9))⟩,
           ⟨(some 63), none, .plain (.mov (.tmp 1))⟩,
           ⟨(some 64), none, .plain (.bin .sub (.tmp 62) (.tmp 63))⟩,
           ⟨(some 65), none, .plain (.bin .geq (.tmp 64) (.const (.int .i64 2)))⟩])
        (.cond (.tmp 65)
         (.both (.seq [⟨(some 66), none, .plain (.mov (.tmp 9))⟩,
            ⟨(some 67), none, .plain (.bin .sub (.tmp 66) (.const (.int .i64 1)))⟩,
            ⟨(some 11), none, .plain (.mov (.tmp 67))⟩])
         (.block 4 (.loop (.both (.both (.seq [⟨(some 68), none, .plain (.mov (.tmp 11))⟩,
               ⟨(some 69), none, .plain (.bin .geq (.tmp 68) (.const (.int .i64 1)))⟩])
            (.cond (.tmp 69)
             .skip
             (.exit 4)))
           (.both (.block 5 (.both (.both (.draw 0 [⟨0, .pure, 0, ⟨(some 72), none, .plain (.mov (.tmp 3))⟩, [], []⟩,
                 ⟨1, .pure, 0, ⟨(some 73), none, .plain (.mov (.tmp 0))⟩, [], []⟩,
                 ⟨2, .pure, 0, ⟨(some 74), none, .plain (.mov (.tmp 11))⟩, [], []⟩,
                 ⟨3, .pure, 0, ⟨(some 75), none, .plain (.iaddr none 2 (.tmp 73) (.tmp 74))⟩, [], []⟩,
                 ⟨4, .read, 0, ⟨(some 76), none, .plain (.load (some 2) (.tmp 75))⟩, [], []⟩,
                 ⟨5, .pure, 0, ⟨(some 77), none, .plain (.mov (.tmp 0))⟩, [], []⟩,
                 ⟨6, .pure, 0, ⟨(some 78), none, .plain (.mov (.tmp 11))⟩, [], []⟩,
                 ⟨7, .pure, 0, ⟨(some 79), none, .plain (.bin .sub (.tmp 78) (.const (.int .i64 1)))⟩, [], []⟩,
                 ⟨8, .pure, 0, ⟨(some 80), none, .plain (.iaddr none 2 (.tmp 77) (.tmp 79))⟩, [], []⟩,
                 ⟨9, .read, 0, ⟨(some 81), none, .plain (.load (some 2) (.tmp 80))⟩, [], []⟩,
                 ⟨10, .chain, 0, ⟨(some 82), none, .callv (.tmp 72) [(.tmp 76), (.tmp 81)]⟩, [], []⟩,
                 ⟨11, .pure, 0, ⟨(some 83), none, .plain (.bin .lss (.tmp 82) (.const (.int .i64 0)))⟩, [], []⟩,
                 ⟨12, .pure, 0, ⟨(some 84), none, .plain (.un .not (.tmp 83))⟩, [], []⟩])
              (.cond (.tmp 84)
               (.exit 4)
               .skip))
             (.draw 0 [⟨0, .pure, 0, ⟨(some 85), none, .plain (.mov (.tmp 0))⟩, [], []⟩,
               ⟨1, .pure, 0, ⟨(some 86), none, .plain (.mov (.tmp 11))⟩, [], []⟩,
               ⟨2, .pure, 0, ⟨(some 87), none, .plain (.mov (.tmp 0))⟩, [], []⟩,
               ⟨3, .pure, 0, ⟨(some 88), none, .plain (.mov (.tmp 11))⟩, [], []⟩,
               ⟨4, .pure, 0, ⟨(some 89), none, .plain (.bin .sub (.tmp 88) (.const (.int .i64 1)))⟩, [], []⟩,
               ⟨5, .pure, 0, ⟨(some 90), none, .plain (.mov (.tmp 0))⟩, [], []⟩,
               ⟨6, .pure, 0, ⟨(some 91), none, .plain (.mov (.tmp 11))⟩, [], []⟩,
               ⟨7, .pure, 0, ⟨(some 92), none, .plain (.bin .sub (.tmp 91) (.const (.int .i64 1)))⟩, [], []⟩,
               ⟨8, .pure, 0, ⟨(some 93), none, .plain (.iaddr none 2 (.tmp 90) (.tmp 92))⟩, [], []⟩,
               ⟨9, .read, 0, ⟨(some 94), none, .plain (.load (some 2) (.tmp 93))⟩, [], []⟩,
               ⟨10, .pure, 0, ⟨(some 95), none, .plain (.mov (.tmp 0))⟩, [], []⟩,
               ⟨11, .pure, 0, ⟨(some 96), none, .plain (.mov (.tmp 11))⟩, [], []⟩,
               ⟨12, .pure, 0, ⟨(some 97), none, .plain (.iaddr none 2 (.tmp 95) (.tmp 96))⟩, [], []⟩,
               ⟨13, .read, 0, ⟨(some 98), none, .plain (.load (some 2) (.tmp 97))⟩, [], []⟩,
               ⟨14, .pure, 0, ⟨(some 99), none, .plain (.iaddr none 2 (.tmp 85) (.tmp 86))⟩, [], []⟩,
               ⟨15, .chain, 0, ⟨none, none, .plain (.store 2 (.tmp 99) (.tmp 94))⟩, [], []⟩,
               ⟨16, .pure, 0, ⟨(some 100), none, .plain (.iaddr none 2 (.tmp 87) (.tmp 89))⟩, [], []⟩,
               ⟨17, .chain, 0, ⟨none, none, .plain (.store 2 (.tmp 100) (.tmp 98))⟩, [], []⟩])))
           (.seq [⟨(some 70), none, .plain (.mov (.tmp 11))⟩,
             ⟨(some 71), none, .plain (.bin .sub (.tmp 70) (.const (.int .i64 1)))⟩,
             ⟨(some 11), none, .plain (.mov (.tmp 71))⟩]))))))
         .skip))
       (.both (.seq [⟨(some 101), none, .plain (.mov (.tmp 2))⟩,
          ⟨(some 102), none, .plain (.mov (.tmp 9))⟩,
          ⟨(some 103), none, .plain (.bin .sub (.tmp 101) (.tmp 102))⟩,
          ⟨(some 104), none, .plain (.bin .geq (.tmp 103) (.const (.int .i64 2)))⟩])
       (.cond (.tmp 104)
        (.both (.seq [⟨(some 105), none, .plain (.mov (.tmp 9))⟩,
           ⟨(some 106), none, .plain (.bin .add (.tmp 105) (.const (.int .i64 1)))⟩,
           ⟨(some 12), none, .plain (.mov (.tmp 106))⟩])
        (.block 6 (.loop (.both (.both (.seq [⟨(some 107), none, .plain (.mov (.tmp 12))⟩,
              ⟨(some 108), none, .plain (.mov (.tmp 2))⟩,
              ⟨(some 109), none, .plain (.bin .lss (.tmp 107) (.tmp 108))⟩])
           (.cond (.tmp 109)
            .skip
            (.exit 6)))
          (.both (.block 7 (.both (.both (.draw 0 [⟨0, .pure, 0, ⟨(some 112), none, .plain (.mov (.tmp 3))⟩, [], []⟩,
                ⟨1, .pure, 0, ⟨(some 113), none, .plain (.mov (.tmp 0))⟩, [], []⟩,
                ⟨2, .pure, 0, ⟨(some 114), none, .plain (.mov (.tmp 12))⟩, [], []⟩,
                ⟨3, .pure, 0, ⟨(some 115), none, .plain (.iaddr none 2 (.tmp 113) (.tmp 114))⟩, [], []⟩,
                ⟨4, .read, 0, ⟨(some 116), none, .plain (.load (some 2) (.tmp 115))⟩, [], []⟩,
                ⟨5, .pure, 0, ⟨(some 117), none, .plain (.mov (.tmp 0))⟩, [], []⟩,
                ⟨6, .pure, 0, ⟨(some 118), none, .plain (.mov (.tmp 12))⟩, [], []⟩,
                ⟨7, .pure, 0, ⟨(some 119), none, .plain (.bin .sub (.tmp 118) (.const (.int .i64 1)))⟩, [], []⟩,
                ⟨8, .pure, 0, ⟨(some 120), none, .plain (.iaddr none 2 (.tmp 117) (.tmp 119))⟩, [], []⟩,
                ⟨9, .read, 0, ⟨(some 121), none, .plain (.load (some 2) (.tmp 120))⟩, [], []⟩,
                ⟨10, .chain, 0, ⟨(some 122), none, .callv (.tmp 112) [(.tmp 116), (.tmp 121)]⟩, [], []⟩,
                ⟨11, .pure, 0, ⟨(some 123), none, .plain (.bin .lss (.tmp 122) (.const (.int .i64 0)))⟩, [], []⟩,
                ⟨12, .pure, 0, ⟨(some 124), none, .plain (.un .not (.tmp 123))⟩, [], []⟩])
             (.cond (.tmp 124)
              (.exit 6)
              .skip))
            (.draw 0 [⟨0, .pure, 0, ⟨(some 125), none, .plain (.mov (.tmp 0))⟩, [], []⟩,
              ⟨1, .pure, 0, ⟨(some 126), none, .plain (.mov (.tmp 12))⟩, [], []⟩,
              ⟨2, .pure, 0, ⟨(some 127), none, .plain (.mov (.tmp 0))⟩, [], []⟩,
              ⟨3, .pure, 0, ⟨(some 128), none, .plain (.mov (.tmp 12))⟩, [], []⟩,
              ⟨4, .pure, 0, ⟨(some 129), none, .plain (.bin .sub (.tmp 128) (.const (.int .i64 1)))⟩, [], []⟩,
              ⟨5, .pure, 0, ⟨(some 130), none, .plain (.mov (.tmp 0))⟩, [], []⟩,
              ⟨6, .pure, 0, ⟨(some 131), none, .plain (.mov (.tmp 12))⟩, [], []⟩,
              ⟨7, .pure, 0, ⟨(some 132), none, .plain (.bin .sub (.tmp 131) (.const (.int .i64 1)))⟩, [], []⟩,
              ⟨8, .pure, 0, ⟨(some 133), none, .plain (.iaddr none 2 (.tmp 130) (.tmp 132))⟩, [], []⟩,
              ⟨9, .read, 0, ⟨(some 134), none, .plain (.load (some 2) (.tmp 133))⟩, [], []⟩,
              ⟨10, .pure, 0, ⟨(some 135), none, .plain (.mov (.tmp 0))⟩, [], []⟩,
              ⟨11, .pure, 0, ⟨(some 136), none, .plain (.mov (.tmp 12))⟩, [], []⟩,
              ⟨12, .pure, 0, ⟨(some 137), none, .plain (.iaddr none 2 (.tmp 135) (.tmp 136))⟩, [], []⟩,
              ⟨13, .read, 0, ⟨(some 138), none, .plain (.load (some 2) (.tmp 137))⟩, [], []⟩,
              ⟨14, .pure, 0, ⟨(some 139), none, .plain (.iaddr none 2 (.tmp 125) (.tmp 126))⟩, [], []⟩,
              ⟨15, .chain, 0, ⟨none, none, .plain (.store 2 (.tmp 139) (.tmp 134))⟩, [], []⟩,
              ⟨16, .pure, 0, ⟨(some 140), none, .plain (.iaddr none 2 (.tmp 127) (.tmp 129))⟩, [], []⟩,
              ⟨17, .chain, 0, ⟨none, none, .plain (.store 2 (.tmp 140) (.tmp 138))⟩, [], []⟩])))
          (.seq [⟨(some 110), none, .plain (.mov (.tmp 12))⟩,
            ⟨(some 111), none, .plain (.bin .add (.tmp 110) (.const (.int .i64 1)))⟩,
            ⟨(some 12), none, .plain (.mov (.tmp 111))⟩]))))))
        .skip))))))))
     (.seq [⟨(some 17), none, .plain (.mov (.tmp 10))⟩,
       ⟨(some 18), none, .plain (.bin .add (.tmp 17) (.const (.int .i64 1)))⟩,
       ⟨(some 10), none, .plain (.mov (.tmp 18))⟩]))))))
  (.both (.seq [⟨(some 8), none, .plain (.mov (.const (.bool false)))⟩])
  .ret))))⟩
/-- slices.partitionEqualCmpFunc[fettle/api.Ext] -/
def a131 : AFunc := ⟨5, [.tmp 10],
  (.both (.seq [⟨(some 10), none, .plain (.mov (.const (.int .i64 0)))⟩])
  (.both (.draw 0 [⟨0, .pure, 0, ⟨(some 13), none, .plain (.mov (.tmp 0))⟩, [], []⟩,
     ⟨1, .pure, 0, ⟨(some 14), none, .plain (.mov (.tmp 1))⟩, [], []⟩,
     ⟨2, .pure, 0, ⟨(some 15), none, .plain (.mov (.tmp 0))⟩, [], []⟩,
     ⟨3, .pure, 0, ⟨(some 16), none, .plain (.mov (.tmp 3))⟩, [], []⟩,
     ⟨4, .pure, 0, ⟨(some 17), none, .plain (.mov (.tmp 0))⟩, [], []⟩,
     ⟨5, .pure, 0, ⟨(some 18), none, .plain (.mov (.tmp 3))⟩, [], []⟩,
     ⟨6, .pure, 0, ⟨(some 19), none, .plain (.iaddr none 2 (.tmp 17) (.tmp 18))⟩, [], []⟩,
     ⟨7, .read, 0, ⟨(some 20), none, .plain (.load (some 2) (.tmp 19))⟩, [], []⟩,
     ⟨8, .pure, 0, ⟨(some 21), none, .plain (.mov (.tmp 0))⟩, [], []⟩,
     ⟨9, .pure, 0, ⟨(some 22), none, .plain (.mov (.tmp 1))⟩, [], []⟩,
     ⟨10, .pure, 0, ⟨(some 23), none, .plain (.iaddr none 2 (.tmp 21) (.tmp 22))⟩, [], []⟩,
     ⟨11, .read, 0, ⟨(some 24), none, .plain (.load (some 2) (.tmp 23))⟩, [], []⟩,
     ⟨12, .pure, 0, ⟨(some 25), none, .plain (.iaddr none 2 (.tmp 13) (.tmp 14))⟩, [], []⟩,
     ⟨13, .chain, 0, ⟨none, none, .plain (.store 2 (.tmp 25) (.tmp 20))⟩, [], []⟩,
     ⟨14, .pure, 0, ⟨(some 26), none, .plain (.iaddr none 2 (.tmp 15) (.tmp 16))⟩, [], []⟩,
     ⟨15, .chain, 0, ⟨none, none, .plain (.store 2 (.tmp 26) (.tmp 24))⟩, [], []⟩])
  (.both (.seq [⟨(some 27), none, .plain (.mov (.tmp 1))⟩,
     ⟨(some 28), none, .plain (.bin .add (.tmp 27) (.const (.int .i64 1)))⟩,
     ⟨(some 29), none, .plain (.mov (.tmp 2))⟩,
     ⟨(some 30), none, .plain (.bin .sub (.tmp 29) (.const (.int .i64 1)))⟩,
     ⟨(some 11), none, .plain (.mov (.tmp 28))⟩,
     ⟨(some 12), none, .plain (.mov (.tmp 30))⟩])
  (.both (.block 0 (.loop (.block 1 (.both (.block 2 (.loop (.both (.both (.draw 0 [⟨0, .pure, 0, ⟨(some 31), none, .plain (.mov (.tmp 11))⟩, [], []⟩,
             ⟨1, .pure, 0, ⟨(some 32), none, .plain (.mov (.tmp 12))⟩, [], []⟩,
             ⟨2, .pure, 0, ⟨(some 33), none, .plain (.bin .leq (.tmp 31) (.tmp 32))⟩, [], []⟩,
             ⟨3, .pure, 0, ⟨(some 34), none, .plain (.mov (.tmp 33))⟩, [], []⟩,
             ⟨4, .pure, 0, ⟨(some 35), (some (34, true)), .plain (.mov (.tmp 4))⟩, [], []⟩,
             ⟨5, .pure, 0, ⟨(some 36), (some (34, true)), .plain (.mov (.tmp 0))⟩, [], []⟩,
             ⟨6, .pure, 0, ⟨(some 37), (some (34, true)), .plain (.mov (.tmp 1))⟩, [], []⟩,
             ⟨7, .pure, 0, ⟨(some 38), (some (34, true)), .plain (.iaddr none 2 (.tmp 36) (.tmp 37))⟩, [], []⟩,
             ⟨8, .read, 0, ⟨(some 39), (some (34, true)), .plain (.load (some 2) (.tmp 38))⟩, [], []⟩,
             ⟨9, .pure, 0, ⟨(some 40), (some (34, true)), .plain (.mov (.tmp 0))⟩, [], []⟩,
             ⟨10, .pure, 0, ⟨(some 41), (some (34, true)), .plain (.mov (.tmp 11))⟩, [], []⟩,
             ⟨11, .pure, 0, ⟨(some 42), (some (34, true)), .plain (.iaddr none 2 (.tmp 40) (.tmp 41))⟩, [], []⟩,
             ⟨12, .read, 0, ⟨(some 43), (some (34, true)), .plain (.load (some 2) (.tmp 42))⟩, [], []⟩,
             ⟨13, .chain, 0, ⟨(some 44), (some (34, true)), .callv (.tmp 35) [(.tmp 39), (.tmp 43)]⟩, [], []⟩,
             ⟨14, .pure, 0, ⟨(some 45), (some (34, true)), .plain (.bin .lss (.tmp 44) (.const (.int .i64 0)))⟩, [], []⟩,
             ⟨15, .pure, 0, ⟨(some 46), (some (34, true)), .plain (.un .not (.tmp 45))⟩, [], []⟩,
             ⟨16, .pure, 0, ⟨(some 47), none, .plain (.pick (.tmp 34) (.tmp 46) (.const (.bool false)))⟩, [], []⟩])
          (.cond (.tmp 47)
           .skip
           (.exit 2)))
         (.block 3 (.seq [⟨(some 48), none, .plain (.mov (.tmp 11))⟩,
            ⟨(some 49), none, .plain (.bin .add (.tmp 48) (.const (.int .i64 1)))⟩,
            ⟨(some 11), none, .plain (.mov (.tmp 49))⟩])))))
      (.both (.block 4 (.loop (.both (.both (.draw 0 [⟨0, .pure, 0, ⟨(some 50), none, .plain (.mov (.tmp 11))⟩, [], []⟩,
             ⟨1, .pure, 0, ⟨(some 51), none, .plain (.mov (.tmp 12))⟩, [], []⟩,
             ⟨2, .pure, 0, ⟨(some 52), none, .plain (.bin .leq (.tmp 50) (.tmp 51))⟩, [], []⟩,
             ⟨3, .pure, 0, ⟨(some 53), none, .plain (.mov (.tmp 52))⟩, [], []⟩,
             ⟨4, .pure, 0, ⟨(some 54), (some (53, true)), .plain (.mov (.tmp 4))⟩, [], []⟩,
             ⟨5, .pure, 0, ⟨(some 55), (some (53, true)), .plain (.mov (.tmp 0))⟩, [], []⟩,
             ⟨6, .pure, 0, ⟨(some 56), (some (53, true)), .plain (.mov (.tmp 1))⟩, [], []⟩,
             ⟨7, .pure, 0, ⟨(some 57), (some (53, true)), .plain (.iaddr none 2 (.tmp 55) (.tmp 56))⟩, [], []⟩,
             ⟨8, .read, 0, ⟨(some 58), (some (53, true)), .plain (.load (some 2) (.tmp 57))⟩, [], []⟩,
             ⟨9, .pure, 0, ⟨(some 59), (some (53, true)), .plain (.mov (.tmp 0))⟩, [], []⟩,
             ⟨10, .pure, 0, ⟨(some 60), (some (53, true)), .plain (.mov (.tmp 12))⟩, [], []⟩,
             ⟨11, .pure, 0, ⟨(some 61), (some (53, true)), .plain (.iaddr none 2 (.tmp 59) (.tmp 60))⟩, [], []⟩,
             ⟨12, .read, 0, ⟨(some 62), (some (53, true)), .plain (.load (some 2) (.tmp 61))⟩, [], []⟩,
             ⟨13, .chain, 0, ⟨(some 63), (some (53, true)), .callv (.tmp 54) [(.tmp 58), (.tmp 62)]⟩, [], []⟩,
             ⟨14, .pure, 0, ⟨(some 64), (some (53, true)), .plain (.bin .lss (.tmp 63) (.const (.int .i64 0)))⟩, [], []⟩,
             ⟨15, .pure, 0, ⟨(some 65), none, .plain (.pick (.tmp 53) (.tmp 64) (.const (.bool false)))⟩, [], []⟩])
          (.cond (.tmp 65)
           .skip
           (.exit 4)))
         (.block 5 (.seq [⟨(some 66), none, .plain (.mov (.tmp 12))⟩,
            ⟨(some 67), none, .plain (.bin .sub (.tmp 66) (.const (.int .i64 1)))⟩,
            ⟨(some 12), none, .plain (.mov (.tmp 67))⟩])))))
      (.both (.both (.seq [⟨(some 68), none, .plain (.mov (.tmp 11))⟩,
          ⟨(some 69), none, .plain (.mov (.tmp 12))⟩,
          ⟨(some 70), none, .plain (.bin .gtr (.tmp 68) (.tmp 69))⟩])
       (.cond (.tmp 70)
        (.exit 0)
        .skip))
      (.both (.draw 0 [⟨0, .pure, 0, ⟨(some 71), none, .plain (.mov (.tmp 0))⟩, [], []⟩,
         ⟨1, .pure, 0, ⟨(some 72), none, .plain (.mov (.tmp 11))⟩, [], []⟩,
         ⟨2, .pure, 0, ⟨(some 73), none, .plain (.mov (.tmp 0))⟩, [], []⟩,
         ⟨3, .pure, 0, ⟨(some 74), none, .plain (.mov (.tmp 12))⟩, [], []⟩,
         ⟨4, .pure, 0, ⟨(some 75), none, .plain (.mov (.tmp 0))⟩, [], []⟩,
         ⟨5, .pure, 0, ⟨(some 76), none, .plain (.mov (.tmp 12))⟩, [], []⟩,
         ⟨6, .pure, 0, ⟨(some 77), none, .plain (.iaddr none 2 (.tmp 75) (.tmp 76))⟩, [], []⟩,
         ⟨7, .read, 0, ⟨(some 78), none, .plain (.load (some 2) (.tmp 77))⟩, [], []⟩,
         ⟨8, .pure, 0, ⟨(some 79), none, .plain (.mov (.tmp 0))⟩, [], []⟩,
         ⟨9, .pure, 0, ⟨(some 80), none, .plain (.mov (.tmp 11))⟩, [], []⟩,
         ⟨10, .pure, 0, ⟨(some 81), none, .plain (.iaddr none 2 (.tmp 79) (.tmp 80))⟩, [], []⟩,
         ⟨11, .read, 0, ⟨(some 82), none, .plain (.load (some 2) (.tmp 81))⟩, [], []⟩,
         ⟨12, .pure, 0, ⟨(some 83), none, .plain (.iaddr none 2 (.tmp 71) (.tmp 72))⟩, [], []⟩,
         ⟨13, .chain, 0, ⟨none, none, .plain (.store 2 (.tmp 83) (.tmp 78))⟩, [], []⟩,
         ⟨14, .pure, 0, ⟨(some 84), none, .plain (.iaddr none 2 (.tmp 73) (.tmp 74))⟩, [], []⟩,
         ⟨15, .chain, 0, ⟨none, none, .plain (.store 2 (.tmp 84) (.tmp 82))⟩, [], []⟩])
      (.both (.seq [⟨(some 85), none, .plain (.mov (.tmp 11))⟩,
         ⟨(some 86), none, .plain (.bin .add (.tmp 85) (.const (.int .i64 1)))⟩,
         ⟨(some 11), none, .plain (.mov (.tmp 86))⟩])
      (.seq [⟨(some 87), none, .plain (.mov (.tmp 12))⟩,
        ⟨(some 88), none, .plain (.bin .sub (.tmp 87) (.const (.int .i64 1)))⟩,
        ⟨(some 12), none, .plain (.mov (.tmp 88))⟩])))))))))
  (.both (.seq [⟨(some 89), none, .plain (.mov (.tmp 11))⟩,
     ⟨(some 10), none, .plain (.mov (.tmp 89))⟩])
  .ret)))))⟩
/-- slices.partitionCmpFunc[fettle/api.Ext] -/
def a132 : AFunc := ⟨5, [.tmp 10, .tmp 11],
  (.both (.seq [⟨(some 10), none, .plain (.mov (.const (.int .i64 0)))⟩,
     ⟨(some 11), none, .plain (.mov (.const (.bool false)))⟩])
  (.both (.draw 0 [⟨0, .pure, 0, ⟨(some 14), none, .plain (.mov (.tmp 0))⟩, [], []⟩,
     ⟨1, .pure, 0, ⟨(some 15), none, .plain (.mov (.tmp 1))⟩, [], []⟩,
     ⟨2, .pure, 0, ⟨(some 16), none, .plain (.mov (.tmp 0))⟩, [], []⟩,
     ⟨3, .pure, 0, ⟨(some 17), none, .plain (.mov (.tmp 3))⟩, [], []⟩,
     ⟨4, .pure, 0, ⟨(some 18), none, .plain (.mov (.tmp 0))⟩, [], []⟩,
     ⟨5, .pure, 0, ⟨(some 19), none, .plain (.mov (.tmp 3))⟩, [], []⟩,
     ⟨6, .pure, 0, ⟨(some 20), none, .plain (.iaddr none 2 (.tmp 18) (.tmp 19))⟩, [], []⟩,
     ⟨7, .read, 0, ⟨(some 21), none, .plain (.load (some 2) (.tmp 20))⟩, [], []⟩,
     ⟨8, .pure, 0, ⟨(some 22), none, .plain (.mov (.tmp 0))⟩, [], []⟩,
     ⟨9, .pure, 0, ⟨(some 23), none, .plain (.mov (.tmp 1))⟩, [], []⟩,
     ⟨10, .pure, 0, ⟨(some 24), none, .plain (.iaddr none 2 (.tmp 22) (.tmp 23))⟩, [], []⟩,
     ⟨11, .read, 0, ⟨(some 25), none, .plain (.load (some 2) (.tmp 24))⟩, [], []⟩,
     ⟨12, .pure, 0, ⟨(some 26), none, .plain (.iaddr none 2 (.tmp 14) (.tmp 15))⟩, [], []⟩,
     ⟨13, .chain, 0, ⟨none, none, .plain (.store 2 (.tmp 26) (.tmp 21))⟩, [], []⟩,
     ⟨14, .pure, 0, ⟨(some 27), none, .plain (.iaddr none 2 (.tmp 16) (.tmp 17))⟩, [], []⟩,
     ⟨15, .chain, 0, ⟨none, none, .plain (.store 2 (.tmp 27) (.tmp 25))⟩, [], []⟩])
  (.both (.seq [⟨(some 28), none, .plain (.mov (.tmp 1))⟩,
     ⟨(some 29), none, .plain (.bin .add (.tmp 28) (.const (.int .i64 1)))⟩,
     ⟨(some 30), none, .plain (.mov (.tmp 2))⟩,
     ⟨(some 31), none, .plain (.bin .sub (.tmp 30) (.const (.int .i64 1)))⟩,
     ⟨(some 12), none, .plain (.mov (.tmp 29))⟩,
     ⟨(some 13), none, .plain (.mov (.tmp 31))⟩])
  (.both (.block 0 (.loop (.both (.both (.draw 0 [⟨0, .pure, 0, ⟨(some 32), none, .plain (.mov (.tmp 12))⟩, [], []⟩,
         ⟨1, .pure, 0, ⟨(some 33), none, .plain (.mov (.tmp 13))⟩, [], []⟩,
         ⟨2, .pure, 0, ⟨(some 34), none, .plain (.bin .leq (.tmp 32) (.tmp 33))⟩, [], []⟩,
         ⟨3, .pure, 0, ⟨(some 35), none, .plain (.mov (.tmp 34))⟩, [], []⟩,
         ⟨4, .pure, 0, ⟨(some 36), (some (35, true)), .plain (.mov (.tmp 4))⟩, [], []⟩,
         ⟨5, .pure, 0, ⟨(some 37), (some (35, true)), .plain (.mov (.tmp 0))⟩, [], []⟩,
         ⟨6, .pure, 0, ⟨(some 38), (some (35, true)), .plain (.mov (.tmp 12))⟩, [], []⟩,
         ⟨7, .pure, 0, ⟨(some 39), (some (35, true)), .plain (.iaddr none 2 (.tmp 37) (.tmp 38))⟩, [], []⟩,
         ⟨8, .read, 0, ⟨(some 40), (some (35, true)), .plain (.load (some 2) (.tmp 39))⟩, [], []⟩,
         ⟨9, .pure, 0, ⟨(some 41), (some (35, true)), .plain (.mov (.tmp 0))⟩, [], []⟩,
         ⟨10, .pure, 0, ⟨(some 42), (some (35, true)), .plain (.mov (.tmp 1))⟩, [], []⟩,
         ⟨11, .pure, 0, ⟨(some 43), (some (35, true)), .plain (.iaddr none 2 (.tmp 41) (.tmp 42))⟩, [], []⟩,
         ⟨12, .read, 0, ⟨(some 44), (some (35, true)), .plain (.load (some 2) (.tmp 43))⟩, [], []⟩,
         ⟨13, .chain, 0, ⟨(some 45), (some (35, true)), .callv (.tmp 36) [(.tmp 40), (.tmp 44)]⟩, [], []⟩,
         ⟨14, .pure, 0, ⟨(some 46), (some (35, true)), .plain (.bin .lss (.tmp 45) (.const (.int .i64 0)))⟩, [], []⟩,
         ⟨15, .pure, 0, ⟨(some 47), none, .plain (.pick (.tmp 35) (.tmp 46) (.const (.bool false)))⟩, [], []⟩])
      (.cond (.tmp 47)
       .skip
       (.exit 0)))
     (.block 1 (.seq [⟨(some 48), none, .plain (.mov (.tmp 12))⟩,
        ⟨(some 49), none, .plain (.bin .add (.tmp 48) (.const (.int .i64 1)))⟩,
        ⟨(some 12), none, .plain (.mov (.tmp 49))⟩])))))
  (.both (.block 2 (.loop (.both (.both (.draw 0 [⟨0, .pure, 0, ⟨(some 50), none, .plain (.mov (.tmp 12))⟩, [], []⟩,
         ⟨1, .pure, 0, ⟨(some 51), none, .plain (.mov (.tmp 13))⟩, [], []⟩,
         ⟨2, .pure, 0, ⟨(some 52), none, .plain (.bin .leq (.tmp 50) (.tmp 51))⟩, [], []⟩,
         ⟨3, .pure, 0, ⟨(some 53), none, .plain (.mov (.tmp 52))⟩, [], []⟩,
         ⟨4, .pure, 0, ⟨(some 54), (some (53, true)), .plain (.mov (.tmp 4))⟩, [], []⟩,
         ⟨5, .pure, 0, ⟨(some 55), (some (53, true)), .plain (.mov (.tmp 0))⟩, [], []⟩,
         ⟨6, .pure, 0, ⟨(some 56), (some (53, true)), .plain (.mov (.tmp 13))⟩, [], []⟩,
         ⟨7, .pure, 0, ⟨(some 57), (some (53, true)), .plain (.iaddr none 2 (.tmp 55) (.tmp 56))⟩, [], []⟩,
         ⟨8, .read, 0, ⟨(some 58), (some (53, true)), .plain (.load (some 2) (.tmp 57))⟩, [], []⟩,
         ⟨9, .pure, 0, ⟨(some 59), (some (53, true)), .plain (.mov (.tmp 0))⟩, [], []⟩,
         ⟨10, .pure, 0, ⟨(some 60), (some (53, true)), .plain (.mov (.tmp 1))⟩, [], []⟩,
         ⟨11, .pure, 0, ⟨(some 61), (some (53, true)), .plain (.iaddr none 2 (.tmp 59) (.tmp 60))⟩, [], []⟩,
         ⟨12, .read, 0, ⟨(some 62), (some (53, true)), .plain (.load (some 2) (.tmp 61))⟩, [], []⟩,
         ⟨13, .chain, 0, ⟨(some 63), (some (53, true)), .callv (.tmp 54) [(.tmp 58), (.tmp 62)]⟩, [], []⟩,
         ⟨14, .pure, 0, ⟨(some 64), (some (53, true)), .plain (.bin .lss (.tmp 63) (.const (.int .i64 0)))⟩, [], []⟩,
         ⟨15, .pure, 0, ⟨(some 65), (some (53, true)), .plain (.un .not (.tmp 64))⟩, [], []⟩,
         ⟨16, .pure, 0, ⟨(some 66), none, .plain (.pick (.tmp 53) (.tmp 65) (.const (.bool false)))⟩, [], []⟩])
      (.cond (.tmp 66)
       .skip
       (.exit 2)))
     (.block 3 (.seq [⟨(some 67), none, .plain (.mov (.tmp 13))⟩,
        ⟨(some 68), none, .plain (.bin .sub (.tmp 67) (.const (.int .i64 1)))⟩,
        ⟨(some 13), none, .plain (.mov (.tmp 68))⟩])))))
  (.both (.both (.seq [⟨(some 69), none, .plain (.mov (.tmp 12))⟩,
      ⟨(some 70), none, .plain (.mov (.tmp 13))⟩,
      ⟨(some 71), none, .plain (.bin .gtr (.tmp 69) (.tmp 70))⟩])
   (.cond (.tmp 71)
    (.both (.draw 0 [⟨0, .pure, 0, ⟨(some 72), none, .plain (.mov (.tmp 0))⟩, [], []⟩,
       ⟨1, .pure, 0, ⟨(some 73), none, .plain (.mov (.tmp 13))⟩, [], []⟩,
       ⟨2, .pure, 0, ⟨(some 74), none, .plain (.mov (.tmp 0))⟩, [], []⟩,
       ⟨3, .pure, 0, ⟨(some 75), none, .plain (.mov (.tmp 1))⟩, [], []⟩,
       ⟨4, .pure, 0, ⟨(some 76), none, .plain (.mov (.tmp 0))⟩, [], []⟩,
       ⟨5, .pure, 0, ⟨(some 77), none, .plain (.mov (.tmp 1))⟩, [], []⟩,
       ⟨6, .pure, 0, ⟨(some 78), none, .plain (.iaddr none 2 (.tmp 76) (.tmp 77))⟩, [], []⟩,
       ⟨7, .read, 0, ⟨(some 79), none, .plain (.load (some 2) (.tmp 78))⟩, [], []⟩,
       ⟨8, .pure, 0, ⟨(some 80), none, .plain (.mov (.tmp 0))⟩, [], []⟩,
       ⟨9, .pure, 0, ⟨(some 81), none, .plain (.mov (.tmp 13))⟩, [], []⟩,
       ⟨10, .pure, 0, ⟨(some 82), none, .plain (.iaddr none 2 (.tmp 80) (.tmp 81))⟩, [], []⟩,
       ⟨11, .read, 0, ⟨(some 83), none, .plain (.load (some 2) (.tmp 82))⟩, [], []⟩,
       ⟨12, .pure, 0, ⟨(some 84), none, .plain (.iaddr none 2 (.tmp 72) (.tmp 73))⟩, [], []⟩,
       ⟨13, .chain, 0, ⟨none, none, .plain (.store 2 (.tmp 84) (.tmp 79))⟩, [], []⟩,
       ⟨14, .pure, 0, ⟨(some 85), none, .plain (.iaddr none 2 (.tmp 74) (.tmp 75))⟩, [], []⟩,
       ⟨15, .chain, 0, ⟨none, none, .plain (.store 2 (.tmp 85) (.tmp 83))⟩, [], []⟩])
    (.both (.seq [⟨(some 86), none, .plain (.mov (.tmp 13))⟩,
       ⟨(some 10), none, .plain (.mov (.tmp 86))⟩,
       ⟨(some 11), none, .plain (.mov (.const (.bool true)))⟩])
    .ret))
    .skip))
  (.both (.draw 0 [⟨0, .pure, 0, ⟨(some 87), none, .plain (.mov (.tmp 0))⟩, [], []⟩,
     ⟨1, .pure, 0, ⟨(some 88), none, .plain (.mov (.tmp 12))⟩, [], []⟩,
     ⟨2, .pure, 0, ⟨(some 89), none, .plain (.mov (.tmp 0))⟩, [], []⟩,
     ⟨3, .pure, 0, ⟨(some 90), none, .plain (.mov (.tmp 13))⟩, [], []⟩,
     ⟨4, .pure, 0, ⟨(some 91), none, .plain (.mov (.tmp 0))⟩, [], []⟩,
     ⟨5, .pure, 0, ⟨(some 92), none, .plain (.mov (.tmp 13))⟩, [], []⟩,
     ⟨6, .pure, 0, ⟨(some 93), none, .plain (.iaddr none 2 (.tmp 91) (.tmp 92))⟩, [], []⟩,
     ⟨7, .read, 0, ⟨(some 94), none, .plain (.load (some 2) (.tmp 93))⟩, [], []⟩,
     ⟨8, .pure, 0, ⟨(some 95), none, .plain (.mov (.tmp 0))⟩, [], []⟩,
     ⟨9, .pure, 0, ⟨(some 96), none, .plain (.mov (.tmp 12))⟩, [], []⟩,
     ⟨10, .pure, 0, ⟨(some 97), none, .plain (.iaddr none 2 (.tmp 95) (.tmp 96))⟩, [], []⟩,
     ⟨11, .read, 0, ⟨(some 98), none, .plain (.load (some 2) (.tmp 97))⟩, [], []⟩,
     ⟨12, .pure, 0, ⟨(some 99), none, .plain (.iaddr none 2 (.tmp 87) (.tmp 88))⟩, [], []⟩,
     ⟨13, .chain, 0, ⟨none, none, .plain (.store 2 (.tmp 99) (.tmp 94))⟩, [], []⟩,
     ⟨14, .pure, 0, ⟨(some 100), none, .plain (.iaddr none 2 (.tmp 89) (.tmp 90))⟩, [], []⟩,
     ⟨15, .chain, 0, ⟨none, none, .plain (.store 2 (.tmp 100) (.tmp 98))⟩, [], []⟩])
  (.both (.seq [⟨(some 101), none, .plain (.mov (.tmp 12))⟩,
     ⟨(some 102), none, .plain (.bin .add (.tmp 101) (.const (.int .i64 1)))⟩,
     ⟨(some 12), none, .plain (.mov (.tmp 102))⟩])
  (.both (.seq [⟨(some 103), none, .plain (.mov (.tmp 13))⟩,
     ⟨(some 104), none, .plain (.bin .sub (.tmp 103) (.const (.int .i64 1)))⟩,
     ⟨(some 13), none, .plain (.mov (.tmp 104))⟩])
  (.both (.block 4 (.loop (.block 5 (.both (.block 6 (.loop (.both (.both (.draw 0 [⟨0, .pure, 0, ⟨(some 105), none, .plain (.mov (.tmp 12))⟩, [], []⟩,
             ⟨1, .pure, 0, ⟨(some 106), none, .plain (.mov (.tmp 13))⟩, [], []⟩,
             ⟨2, .pure, 0, ⟨(some 107), none, .plain (.bin .leq (.tmp 105) (.tmp 106))⟩, [], []⟩,
             ⟨3, .pure, 0, ⟨(some 108), none, .plain (.mov (.tmp 107))⟩, [], []⟩,
             ⟨4, .pure, 0, ⟨(some 109), (some (108, true)), .plain (.mov (.tmp 4))⟩, [], []⟩,
             ⟨5, .pure, 0, ⟨(some 110), (some (108, true)), .plain (.mov (.tmp 0))⟩, [], []⟩,
             ⟨6, .pure, 0, ⟨(some 111), (some (108, true)), .plain (.mov (.tmp 12))⟩, [], []⟩,
             ⟨7, .pure, 0, ⟨(some 112), (some (108, true)), .plain (.iaddr none 2 (.tmp 110) (.tmp 111))⟩, [], []⟩,
             ⟨8, .read, 0, ⟨(some 113), (some (108, true)), .plain (.load (some 2) (.tmp 112))⟩, [], []⟩,
             ⟨9, .pure, 0, ⟨(some 114), (some (108, true)), .plain (.mov (.tmp 0))⟩, [], []⟩,
             ⟨10, .pure, 0, ⟨(some 115), (some (108, true)), .plain (.mov (.tmp 1))⟩, [], []⟩,
             ⟨11, .pure, 0, ⟨(some 116), (some (108, true)), .plain (.iaddr none 2 (.tmp 114) (.tmp 115))⟩, [], []⟩,
             ⟨12, .read, 0, ⟨(some 117), (some (108, true)), .plain (.load (some 2) (.tmp 116))⟩, [], []⟩,
             ⟨13, .chain, 0, ⟨(some 118), (some (108, true)), .callv (.tmp 109) [(.tmp 113), (.tmp 117)]⟩, [], []⟩,
             ⟨14, .pure, 0, ⟨(some 119), (some (108, true)), .plain (.bin .lss (.tmp 118) (.const (.int .i64 0)))⟩, [], []⟩,
             ⟨15, .pure, 0, ⟨(some 120), none, .plain (.pick (.tmp 108) (.tmp 119) (.const (.bool false)))⟩, [], []⟩])
          (.cond (.tmp 120)
           .skip
           (.exit 6)))
         (.block 7 (.seq [⟨(some 121), none, .plain (.mov (.tmp 12))⟩,
            ⟨(some 122), none, .plain (.bin .add (.tmp 121) (.const (.int .i64 1)))⟩,
            ⟨(some 12), none, .plain (.mov (.tmp 122))⟩])))))
      (.both (.block 8 (.loop (.both (.both (.draw 0 [⟨0, .pure, 0, ⟨(some 123), none, .plain (.mov (.tmp 12))⟩, [], []⟩,
             ⟨1, .pure, 0, ⟨(some 124), none, .plain (.mov (.tmp 13))⟩, [], []⟩,
             ⟨2, .pure, 0, ⟨(some 125), none, .plain (.bin .leq (.tmp 123) (.tmp 124))⟩, [], []⟩,
             ⟨3, .pure, 0, ⟨(some 126), none, .plain (.mov (.tmp 125))⟩, [], []⟩,
             ⟨4, .pure, 0, ⟨(some 127), (some (126, true)), .plain (.mov (.tmp 4))⟩, [], []⟩,
             ⟨5, .pure, 0, ⟨(some 128), (some (126, true)), .plain (.mov (.tmp 0))⟩, [], []⟩,
             ⟨6, .pure, 0, ⟨(some 129), (some (126, true)), .plain (.mov (.tmp 13))⟩, [], []⟩,
             ⟨7, .pure, 0, ⟨(some 130), (some (126, true)), .plain (.iaddr none 2 (.tmp 128) (.tmp 129))⟩, [], []⟩,
             ⟨8, .read, 0, ⟨(some 131), (some (126, true)), .plain (.load (some 2) (.tmp 130))⟩, [], []⟩,
             ⟨9, .pure, 0, ⟨(some 132), (some (126, true)), .plain (.mov (.tmp 0))⟩, [], []⟩,
             ⟨10, .pure, 0, ⟨(some 133), (some (126, true)), .plain (.mov (.tmp 1))⟩, [], []⟩,
             ⟨11, .pure, 0, ⟨(some 134), (some (126, true)), .plain (.iaddr none 2 (.tmp 132) (.tmp 133))⟩, [], []⟩,
             ⟨12, .read, 0, ⟨(some 135), (some (126, true)), .plain (.load (some 2) (.tmp 134))⟩, [], []⟩,
             ⟨13, .chain, 0, ⟨(some 136), (some (126, true)), .callv (.tmp 127) [(.tmp 131), (.tmp 135)]⟩, [], []⟩,
             ⟨14, .pure, 0, ⟨(some 137), (some (126, true)), .plain (.bin .lss (.tmp 136) (.const (.int .i64 0)))⟩, [], []⟩,
             ⟨15, .pure, 0, ⟨(some 138), (some (126, true)), .plain (.un .not (.tmp 137))⟩, [], []⟩,
             ⟨16, .pure, 0, ⟨(some 139), none, .plain (.pick (.tmp 126) (.tmp 138) (.const (.bool false)))⟩, [], []⟩])
          (.cond (.tmp 139)
           .skip
           (.exit 8)))
         (.block 9 (.seq [⟨(some 140), none, .plain (.mov (.tmp 13))⟩,
            ⟨(some 141), none, .plain (.bin .sub (.tmp 140) (.const (.int .i64 1)))⟩,
            ⟨(some 13), none, .plain (.mov (.tmp 141))⟩])))))
      (.both (.both (.seq [⟨(some 142), none, .plain (.mov (.tmp 12))⟩,
          ⟨(some 143), none, .plain (.mov (.tmp 13))⟩,
          ⟨(some 144), none, .plain (.bin .gtr (.tmp 142) (.tmp 143))⟩])
       (.cond (.tmp 144)
        (.exit 4)
        .skip))
      (.both (.draw 0 [⟨0, .pure, 0, ⟨(some 145), none, .plain (.mov (.tmp 0))⟩, [], []⟩,
         ⟨1, .pure, 0, ⟨(some 146), none, .plain (.mov (.tmp 12))⟩, [], []⟩,
         ⟨2, .pure, 0, ⟨(some 147), none, .plain (.mov (.tmp 0))⟩, [], []⟩,
         ⟨3, .pure, 0, ⟨(some 148), none, .plain (.mov (.tmp 13))⟩, [], []⟩,
         ⟨4, .pure, 0, ⟨(some 149), none, .plain (.mov (.tmp 0))⟩, [], []⟩,
         ⟨5, .pure, 0, ⟨(some 150), none, .plain (.mov (.tmp 13))⟩, [], []⟩,
         ⟨6, .pure, 0, ⟨(some 151), none, .plain (.iaddr none 2 (.tmp 149) (.tmp 150))⟩, [], []⟩,
         ⟨7, .read, 0, ⟨(some 152), none, .plain (.load (some 2) (.tmp 151))⟩, [], []⟩,
         ⟨8, .pure, 0, ⟨(some 153), none, .plain (.mov (.tmp 0))⟩, [], []⟩,
         ⟨9, .pure, 0, ⟨(some 154), none, .plain (.mov (.tmp 12))⟩, [], []⟩,
         ⟨10, .pure, 0, ⟨(some 155), none, .plain (.iaddr none 2 (.tmp 153) (.tmp 154))⟩, [], []⟩,
         ⟨11, .read, 0, ⟨(some 156), none, .plain (.load (some 2) (.tmp 155))⟩, [], []⟩,
         ⟨12, .pure, 0, ⟨(some 157), none, .plain (.iaddr none 2 (.tmp 145) (.tmp 146))⟩, [], []⟩,
         ⟨13, .chain, 0, ⟨none, none, .plain (.store 2 (.tmp 157) (.tmp 152))⟩, [], []⟩,
         ⟨14, .pure, 0, ⟨(some 158), none, .plain (.iaddr none 2 (.tmp 147) (.tmp 148))⟩, [], []⟩,
         ⟨15, .chain, 0, ⟨none, none, .plain (.store 2 (.tmp 158) (.tmp 156))⟩, [], []⟩])
      (.both (.seq [⟨(some 159), none, .plain (.mov (.tmp 12))⟩,
         ⟨(some 160), none, .plain (.bin .add (.tmp 159) (.const (.int .i64 1)))⟩,
         ⟨(some 12), none, .plain (.mov (.tmp 160))⟩])
      (.seq [⟨(some 161), none, .plain (.mov (.tmp 13))⟩,
        ⟨(some 162), none, .plain (.bin .sub (.tmp 161) (.const (.int .i64 1)))⟩,
        ⟨(some 13), none, .plain (.mov (.tmp 162))⟩])))))))))
  (.both (.draw 0 [⟨0, .pure, 0, ⟨(some 163), none, .plain (.mov (.tmp 0))⟩, [], []⟩,
     ⟨1, .pure, 0, ⟨(some 164), none, .plain (.mov (.tmp 13))⟩, [], []⟩,
     ⟨2, .pure, 0, ⟨(some 165), none, .plain (.mov (.tmp 0))⟩, [], []⟩,
     ⟨3, .pure, 0, ⟨(some 166), none, .plain (.mov (.tmp 1))⟩, [], []⟩,
     ⟨4, .pure, 0, ⟨(some 167), none, .plain (.mov (.tmp 0))⟩, [], []⟩,
     ⟨5, .pure, 0, ⟨(some 168), none, .plain (.mov (.tmp 1))⟩, [], []⟩,
     ⟨6, .pure, 0, ⟨(some 169), none, .plain (.iaddr none 2 (.tmp 167) (.tmp 168))⟩, [], []⟩,
     ⟨7, .read, 0, ⟨(some 170), none, .plain (.load (some 2) (.tmp 169))⟩, [], []⟩,
     ⟨8, .pure, 0, ⟨(some 171), none, .plain (.mov (.tmp 0))⟩, [], []⟩,
     ⟨9, .pure, 0, ⟨(some 172), none, .plain (.mov (.tmp 13))⟩, [], []⟩,
     ⟨10, .pure, 0, ⟨(some 173), none, .plain (.iaddr none 2 (.tmp 171) (.tmp 172))⟩, [], []⟩,
     ⟨11, .read, 0, ⟨(some 174), none, .plain (.load (some 2) (.tmp 173))⟩, [], []⟩,
     ⟨12, .pure, 0, ⟨(some 175), none, .plain (.iaddr none 2 (.tmp 163) (.tmp 164))⟩, [], []⟩,
     ⟨13, .chain, 0, ⟨none, none, .plain (.store 2 (.tmp 175) (.tmp 170))⟩, [], []⟩,
     ⟨14, .pure, 0, ⟨(some 176), none, .plain (.iaddr none 2 (.tmp 165) (.tmp 166))⟩, [], []⟩,
     ⟨15, .chain, 0, ⟨none, none, .plain (.store 2 (.tmp 176) (.tmp 174))⟩, [], []⟩])
  (.both (.seq [⟨(some 177), none, .plain (.mov (.tmp 13))⟩,
     ⟨(some 10), none, .plain (.mov (.tmp 177))⟩,
     ⟨(some 11), none, .plain (.mov (.const (.bool false)))⟩])
  .ret))))))))))))⟩
/-- math/bits.Len32 -/
def a133 : AFunc := ⟨1, [.tmp 2],
  (.both (.seq [⟨(some 2), none, .plain (.mov (.const (.int .i64 0)))⟩])
  (.both (.both (.seq [⟨(some 3), none, .plain (.mov (.tmp 0))⟩,
      ⟨(some 4), none, .plain (.bin .geq (.tmp 3) (.const (.int .u32 65536)))⟩])
   (.cond (.tmp 4)
    (.both (.seq [⟨(some 5), none, .plain (.mov (.tmp 0))⟩,
       ⟨(some 6), none, .plain (.bin .shr (.tmp 5) (.const (.int .u64 16)))⟩,
       ⟨(some 0), none, .plain (.mov (.tmp 6))⟩])
    (.seq [⟨(some 2), none, .plain (.mov (.const (.int .i64 16)))⟩]))
    .skip))
  (.both (.both (.seq [⟨(some 7), none, .plain (.mov (.tmp 0))⟩,
      ⟨(some 8), none, .plain (.bin .geq (.tmp 7) (.const (.int .u32 256)))⟩])
   (.cond (.tmp 8)
    (.both (.seq [⟨(some 9), none, .plain (.mov (.tmp 0))⟩,
       ⟨(some 10), none, .plain (.bin .shr (.tmp 9) (.const (.int .u64 8)))⟩,
       ⟨(some 0), none, .plain (.mov (.tmp 10))⟩])
    (.seq [⟨(some 11), none, .plain (.mov (.tmp 2))⟩,
      ⟨(some 12), none, .plain (.bin .add (.tmp 11) (.const (.int .i64 8)))⟩,
      ⟨(some 2), none, .plain (.mov (.tmp 12))⟩]))
    .skip))
  (.both (.seq [⟨(some 13), none, .plain (.mov (.tmp 2))⟩,
     ⟨(some 14), none, .plain (.mov (.tmp 0))⟩,
     ⟨(some 15), none, .plain (.conv (.int .u8) (.tmp 14))⟩,
     ⟨(some 16), none, .plain (.index .str (.const (.string ⟨#[0, 1, 2, 2, 3, 3, 3, 3, 4, 4, 4, 4, 4, 4, 4, 4, 5, 5, 5, 5, 5, 5, 5, 5, 5, 5, 5, 5, 5, 5, 5, 5, 6, 6, 6, 6, 6, 6, 6, 6, 6, 6, 6, 6, 6, 6, 6, 6, 6, 6, 6, 6, 6, 6, 6, 6, 6, 6, 6, 6, 6, 6, 6, 6, 7, 7, 7, 7, 7, 7, 7, 7, 7, 7, 7, 7, 7, 7, 7, 7, 7, 7, 7, 7, 7, 7, 7, 7, 7, 7, 7, 7, 7, 7, 7, 7, 7, 7, 7, 7, 7, 7, 7, 7, 7, 7, 7, 7, 7, 7, 7, 7, 7, 7, 7, 7, 7, 7, 7, 7, 7, 7, 7, 7, 7, 7, 7, 7, 8, 8, 8, 8, 8, 8, 8, 8, 8, 8, 8, 8, 8, 8, 8, 8, 8, 8, 8, 8, 8, 8, 8, 8, 8, 8, 8, 8, 8, 8, 8, 8, 8, 8, 8, 8, 8, 8, 8, 8, 8, 8, 8, 8, 8, 8, 8, 8, 8, 8, 8, 8, 8, 8, 8, 8, 8, 8, 8, 8, 8, 8, 8, 8, 8, 8, 8, 8, 8, 8, 8, 8, 8, 8, 8, 8, 8, 8, 8, 8, 8, 8, 8, 8, 8, 8, 8, 8, 8, 8, 8, 8, 8, 8, 8, 8, 8, 8, 8, 8, 8, 8, 8, 8, 8, 8, 8, 8, 8, 8, 8, 8, 8, 8, 8, 8, 8, 8, 8, 8, 8, 8, 8, 8, 8, 8, 8, 8]⟩)) (.tmp 15))⟩,
     ⟨(some 17), none, .plain (.conv (.int .i64) (.tmp 16))⟩,
     ⟨(some 18), none, .plain (.bin .add (.tmp 13) (.tmp 17))⟩,
     ⟨(some 2), none, .plain (.mov (.tmp 18))⟩])
  .ret))))⟩
/-- math/bits.Len64 -/
def a134 : AFunc := ⟨1, [.tmp 2],
  (.both (.seq [⟨(some 2), none, .plain (.mov (.const (.int .i64 0)))⟩])
  (.both (.both (.seq [⟨(some 3), none, .plain (.mov (.tmp 0))⟩,
      ⟨(some 4), none, .plain (.bin .geq (.tmp 3) (.const (.int .u64 4294967296)))⟩])
   (.cond (.tmp 4)
    (.both (.seq [⟨(some 5), none, .plain (.mov (.tmp 0))⟩,
       ⟨(some 6), none, .plain (.bin .shr (.tmp 5) (.const (.int .u64 32)))⟩,
       ⟨(some 0), none, .plain (.mov (.tmp 6))⟩])
    (.seq [⟨(some 2), none, .plain (.mov (.const (.int .i64 32)))⟩]))
    .skip))
  (.both (.both (.seq [⟨(some 7), none, .plain (.mov (.tmp 0))⟩,
      ⟨(some 8), none, .plain (.bin .geq (.tmp 7) (.const (.int .u64 65536)))⟩])
   (.cond (.tmp 8)
    (.both (.seq [⟨(some 9), none, .plain (.mov (.tmp 0))⟩,
       ⟨(some 10), none, .plain (.bin .shr (.tmp 9) (.const (.int .u64 16)))⟩,
       ⟨(some 0), none, .plain (.mov (.tmp 10))⟩])
    (.seq [⟨(some 11), none, .plain (.mov (.tmp 2))⟩,
      ⟨(some 12), none, .plain (.bin .add (.tmp 11) (.const (.int .i64 16)))⟩,
      ⟨(some 2), none, .plain (.mov (.tmp 12))⟩]))
    .skip))
  (.both (.both (.seq [⟨(some 13), none, .plain (.mov (.tmp 0))⟩,
      ⟨(some 14), none, .plain (.bin .geq (.tmp 13) (.const (.int .u64 256)))⟩])
   (.cond (.tmp 14)
    (.both (.seq [⟨(some 15), none, .plain (.mov (.tmp 0))⟩,
       ⟨(some 16), none, .plain (.bin .shr (.tmp 15) (.const (.int .u64 8)))⟩,
       ⟨(some 0), none, .plain (.mov (.tmp 16))⟩])
    (.seq [⟨(some 17), none, .plain (.mov (.tmp 2))⟩,
      ⟨(some 18), none, .plain (.bin .add (.tmp 17) (.const (.int .i64 8)))⟩,
      ⟨(some 2), none, .plain (.mov (.tmp 18))⟩]))
    .skip))
  (.both (.seq [⟨(some 19), none, .plain (.mov (.tmp 2))⟩,
     ⟨(some 20), none, .plain (.mov (.tmp 0))⟩,
     ⟨(some 21), none, .plain (.conv (.int .u8) (.tmp 20))⟩,
     ⟨(some 22), none, .plain (.index .str (.const (.string ⟨#[0, 1, 2, 2, 3, 3, 3, 3, 4, 4, 4, 4, 4, 4, 4, 4, 5, 5, 5, 5, 5, 5, 5, 5, 5, 5, 5, 5, 5, 5, 5, 5, 6, 6, 6, 6, 6, 6, 6, 6, 6, 6, 6, 6, 6, 6, 6, 6, 6, 6, 6, 6, 6, 6, 6, 6, 6, 6, 6, 6, 6, 6, 6, 6, 7, 7, 7, 7, 7, 7, 7, 7, 7, 7, 7, 7, 7, 7, 7, 7, 7, 7, 7, 7, 7, 7, 7, 7, 7, 7, 7, 7, 7, 7, 7, 7, 7, 7, 7, 7, 7, 7, 7, 7, 7, 7, 7, 7, 7, 7, 7, 7, 7, 7, 7, 7, 7, 7, 7, 7, 7, 7, 7, 7, 7, 7, 7, 7, 8, 8, 8, 8, 8, 8, 8, 8, 8, 8, 8, 8, 8, 8, 8, 8, 8, 8, 8, 8, 8, 8, 8, 8, 8, 8, 8, 8, 8, 8, 8, 8, 8, 8, 8, 8, 8, 8, 8, 8, 8, 8, 8, 8, 8, 8, 8, 8, 8, 8, 8, 8, 8, 8, 8, 8, 8, 8, 8, 8, 8, 8, 8, 8, 8, 8, 8, 8, 8, 8, 8, 8, 8, 8, 8, 8, 8, 8, 8, 8, 8, 8, 8, 8, 8, 8, 8, 8, 8, 8, 8, 8, 8, 8, 8, 8, 8, 8, 8, 8, 8, 8, 8, 8, 8, 8, 8, 8, 8, 8, 8, 8, 8, 8, 8, 8, 8, 8, 8, 8, 8, 8, 8, 8, 8, 8, 8, 8]⟩)) (.tmp 21))⟩,
     ⟨(some 23), none, .plain (.conv (.int .i64) (.tmp 22))⟩,
     ⟨(some 24), none, .plain (.bin .add (.tmp 19) (.tmp 23))⟩,
     ⟨(some 2), none, .plain (.mov (.tmp 24))⟩])
  .ret)))))⟩
/-- slices.siftDownCmpFunc[fettle/api.Ext] -/
def a136 : AFunc := ⟨5, [],
  (.both (.seq [⟨(some 12), none, .plain (.mov (.tmp 1))⟩,
     ⟨(some 10), none, .plain (.mov (.tmp 12))⟩])
  (.block 0 (.loop (.block 1 (.both (.seq [⟨(some 13), none, .plain (.mov (.tmp 10))⟩,
        ⟨(some 14), none, .plain (.bin .mul (.const (.int .i64 2)) (.tmp 13))⟩,
        ⟨(some 15), none, .plain (.bin .add (.tmp 14) (.const (.int .i64 1)))⟩,
        ⟨(some 11), none, .plain (.mov (.tmp 15))⟩])
     (.both (.both (.seq [⟨(some 16), none, .plain (.mov (.tmp 11))⟩,
         ⟨(some 17), none, .plain (.mov (.tmp 2))⟩,
         ⟨(some 18), none, .plain (.bin .geq (.tmp 16) (.tmp 17))⟩])
      (.cond (.tmp 18)
       (.exit 0)
       .skip))
     (.both (.both (.draw 0 [⟨0, .pure, 0, ⟨(some 19), none, .plain (.mov (.tmp 11))⟩, [], []⟩,
         ⟨1, .pure, 0, ⟨(some 20), none, .plain (.bin .add (.tmp 19) (.const (.int .i64 1)))⟩, [], []⟩,
         ⟨2, .pure, 0, ⟨(some 21), none, .plain (.mov (.tmp 2))⟩, [], []⟩,
         ⟨3, .pure, 0, ⟨(some 22), none, .plain (.bin .lss (.tmp 20) (.tmp 21))⟩, [], []⟩,
         ⟨4, .pure, 0, ⟨(some 23), none, .plain (.mov (.tmp 22))⟩, [], []⟩,
         ⟨5, .pure, 0, ⟨(some 24), (some (23, true)), .plain (.mov (.tmp 4))⟩, [], []⟩,
         ⟨6, .pure, 0, ⟨(some 25), (some (23, true)), .plain (.mov (.tmp 0))⟩, [], []⟩,
         ⟨7, .pure, 0, ⟨(some 26), (some (23, true)), .plain (.mov (.tmp 3))⟩, [], []⟩,
         ⟨8, .pure, 0, ⟨(some 27), (some (23, true)), .plain (.mov (.tmp 11))⟩, [], []⟩,
         ⟨9, .pure, 0, ⟨(some 28), (some (23, true)), .plain (.bin .add (.tmp 26) (.tmp 27))⟩, [], []⟩,
         ⟨10, .pure, 0, ⟨(some 29), (some (23, true)), .plain (.iaddr none 2 (.tmp 25) (.tmp 28))⟩, [], []⟩,
         ⟨11, .read, 0, ⟨(some 30), (some (23, true)), .plain (.load (some 2) (.tmp 29))⟩, [], []⟩,
         ⟨12, .pure, 0, ⟨(some 31), (some (23, true)), .plain (.mov (.tmp 0))⟩, [], []⟩,
         ⟨13, .pure, 0, ⟨(some 32), (some (23, true)), .plain (.mov (.tmp 3))⟩, [], []⟩,
         ⟨14, .pure, 0, ⟨(some 33), (some (23, true)), .plain (.mov (.tmp 11))⟩, [], []⟩,
         ⟨15, .pure, 0, ⟨(some 34), (some (23, true)), .plain (.bin .add (.tmp 32) (.tmp 33))⟩, [], []⟩,
         ⟨16, .pure, 0, ⟨(some 35), (some (23, true)), .plain (.bin .add (.tmp 34) (.const (.int .i64 1)))⟩, [], []⟩,
         ⟨17, .pure, 0, ⟨(some 36), (some (23, true)), .plain (.iaddr none 2 (.tmp 31) (.tmp 35))⟩, [], []⟩,
         ⟨18, .read, 0, ⟨(some 37), (some (23, true)), .plain (.load (some 2) (.tmp 36))⟩, [], []⟩,
         ⟨19, .chain, 0, ⟨(some 38), (some (23, true)), .callv (.tmp 24) [(.tmp 30), (.tmp 37)]⟩, [], []⟩,
         ⟨20, .pure, 0, ⟨(some 39), (some (23, true)), .plain (.bin .lss (.tmp 38) (.const (.int .i64 0)))⟩, [], []⟩,
         ⟨21, .pure, 0, ⟨(some 40), none, .plain (.pick (.tmp 23) (.tmp 39) (.const (.bool false)))⟩, [], []⟩])
      (.cond (.tmp 40)
       (.seq [⟨(some 41), none, .plain (.mov (.tmp 11))⟩,
         ⟨(some 42), none, .plain (.bin .add (.tmp 41) (.const (.int .i64 1)))⟩,
         ⟨(some 11), none, .plain (.mov (.tmp 42))⟩])
       .skip))
     (.both (.both (.draw 0 [⟨0, .pure, 0, ⟨(some 43), none, .plain (.mov (.tmp 4))⟩, [], []⟩,
         ⟨1, .pure, 0, ⟨(some 44), none, .plain (.mov (.tmp 0))⟩, [], []⟩,
         ⟨2, .pure, 0, ⟨(some 45), none, .plain (.mov (.tmp 3))⟩, [], []⟩,
         ⟨3, .pure, 0, ⟨(some 46), none, .plain (.mov (.tmp 10))⟩, [], []⟩,
         ⟨4, .pure, 0, ⟨(some 47), none, .plain (.bin .add (.tmp 45) (.tmp 46))⟩, [], []⟩,
         ⟨5, .pure, 0, ⟨(some 48), none, .plain (.iaddr none 2 (.tmp 44) (.tmp 47))⟩, [], []⟩,
         ⟨6, .read, 0, ⟨(some 49), none, .plain (.load (some 2) (.tmp 48))⟩, [], []⟩,
         ⟨7, .pure, 0, ⟨(some 50), none, .plain (.mov (.tmp 0))⟩, [], []⟩,
         ⟨8, .pure, 0, ⟨(some 51), none, .plain (.mov (.tmp 3))⟩, [], []⟩,
         ⟨9, .pure, 0, ⟨(some 52), none, .plain (.mov (.tmp 11))⟩, [], []⟩,
         ⟨10, .pure, 0, ⟨(some 53), none, .plain (.bin .add (.tmp 51) (.tmp 52))⟩, [], []⟩,
         ⟨11, .pure, 0, ⟨(some 54), none, .plain (.iaddr none 2 (.tmp 50) (.tmp 53))⟩, [], []⟩,
         ⟨12, .read, 0, ⟨(some 55), none, .plain (.load (some 2) (.tmp 54))⟩, [], []⟩,
         ⟨13, .chain, 0, ⟨(some 56), none, .callv (.tmp 43) [(.tmp 49), (.tmp 55)]⟩, [], []⟩,
         ⟨14, .pure, 0, ⟨(some 57), none, .plain (.bin .lss (.tmp 56) (.const (.int .i64 0)))⟩, [], []⟩,
         ⟨15, .pure, 0, ⟨(some 58), none, .plain (.un .not (.tmp 57))⟩, [], []⟩])
      (.cond (.tmp 58)
       .ret
       .skip))
     (.both (.draw 0 [⟨0, .pure, 0, ⟨(some 59), none, .plain (.mov (.tmp 0))⟩, [], []⟩,
        ⟨1, .pure, 0, ⟨(some 60), none, .plain (.mov (.tmp 3))⟩, [], []⟩,
        ⟨2, .pure, 0, ⟨(some 61), none, .plain (.mov (.tmp 10))⟩, [], []⟩,
        ⟨3, .pure, 0, ⟨(some 62), none, .plain (.bin .add (.tmp 60) (.tmp 61))⟩, [], []⟩,
        ⟨4, .pure, 0, ⟨(some 63), none, .plain (.mov (.tmp 0))⟩, [], []⟩,
        ⟨5, .pure, 0, ⟨(some 64), none, .plain (.mov (.tmp 3))⟩, [], []⟩,
        ⟨6, .pure, 0, ⟨(some 65), none, .plain (.mov (.tmp 11))⟩, [], []⟩,
        ⟨7, .pure, 0, ⟨(some 66), none, .plain (.bin .add (.tmp 64) (.tmp 65))⟩, [], []⟩,
        ⟨8, .pure, 0, ⟨(some 67), none, .plain (.mov (.tmp 0))⟩, [], []⟩,
        ⟨9, .pure, 0, ⟨(some 68), none, .plain (.mov (.tmp 3))⟩, [], []⟩,
        ⟨10, .pure, 0, ⟨(some 69), none, .plain (.mov (.tmp 11))⟩, [], []⟩,
        ⟨11, .pure, 0, ⟨(some 70), none, .plain (.bin .add (.tmp 68) (.tmp 69))⟩, [], []⟩,
        ⟨12, .pure, 0, ⟨(some 71), none, .plain (.iaddr none 2 (.tmp 67) (.tmp 70))⟩, [], []⟩,
        ⟨13, .read, 0, ⟨(some 72), none, .plain (.load (some 2) (.tmp 71))⟩, [], []⟩,
        ⟨14, .pure, 0, ⟨(some 73), none, .plain (.mov (.tmp 0))⟩, [], []⟩,
        ⟨15, .pure, 0, ⟨(some 74), none, .plain (.mov (.tmp 3))⟩, [], []⟩,
        ⟨16, .pure, 0, ⟨(some 75), none, .plain (.mov (.tmp 10))⟩, [], []⟩,
        ⟨17, .pure, 0, ⟨(some 76), none, .plain (.bin .add (.tmp 74) (.tmp 75))⟩, [], []⟩,
        ⟨18, .pure, 0, ⟨(some 77), none, .plain (.iaddr none 2 (.tmp 73) (.tmp 76))⟩, [], []⟩,
        ⟨19, .read, 0, ⟨(some 78), none, .plain (.load (some 2) (.tmp 77))⟩, [], []⟩,
        ⟨20, .pure, 0, ⟨(some 79), none, .plain (.iaddr none 2 (.tmp 59) (.tmp 62))⟩, [], []⟩,
        ⟨21, .chain, 0, ⟨none, none, .plain (.store 2 (.tmp 79) (.tmp 72))⟩, [], []⟩,
        ⟨22, .pure, 0, ⟨(some 80), none, .plain (.iaddr none 2 (.tmp 63) (.tmp 66))⟩, [], []⟩,
        ⟨23, .chain, 0, ⟨none, none, .plain (.store 2 (.tmp 80) (.tmp 78))⟩, [], []⟩])
     (.seq [⟨(some 81), none, .plain (.mov (.tmp 11))⟩,
       ⟨(some 10), none, .plain (.mov (.tmp 81))⟩]))))))))))⟩
/-- slices.nextPowerOfTwo -/
def a137 : AFunc := ⟨1, [.tmp 2],
  (.both (.seq [⟨(some 2), none, .plain (.mov (.const (.int .u64 0)))⟩])
  (.both (.seq [⟨(some 3), none, .plain (.mov (.tmp 0))⟩,
     ⟨(some 4), none, .plain (.conv (.int .u64) (.tmp 3))⟩,
     ⟨(some 5), none, .call 118 [(.tmp 4)]⟩,
     ⟨(some 6), none, .plain (.bin .shl (.const (.int .u64 1)) (.tmp 5))⟩,
     ⟨(some 2), none, .plain (.mov (.tmp 6))⟩])
  .ret))⟩
/-- (*slices.xorshift).Next -/
def a138 : AFunc := ⟨1, [.tmp 2],
  (.both (.seq [⟨(some 2), none, .plain (.mov (.const (.int .u64 0)))⟩])
  (.both (.draw 0 [⟨0, .pure, 0, ⟨(some 3), none, .plain (.mov (.tmp 0))⟩, [], []⟩,
     ⟨1, .pure, 0, ⟨(some 4), none, .plain (.nilCheck (.tmp 3))⟩, [], []⟩,
     ⟨2, .read, 0, ⟨(some 5), none, .plain (.load none (.tmp 4))⟩, [], []⟩,
     ⟨3, .pure, 0, ⟨(some 6), none, .plain (.mov (.tmp 0))⟩, [], []⟩,
     ⟨4, .pure, 0, ⟨(some 7), none, .plain (.nilCheck (.tmp 6))⟩, [], []⟩,
     ⟨5, .read, 0, ⟨(some 8), none, .plain (.load none (.tmp 7))⟩, [], []⟩,
     ⟨6, .pure, 0, ⟨(some 9), none, .plain (.bin .shl (.tmp 8) (.const (.int .u64 13)))⟩, [], []⟩,
     ⟨7, .pure, 0, ⟨(some 10), none, .plain (.bin .xor (.tmp 5) (.tmp 9))⟩, [], []⟩,
     ⟨8, .pure, 0, ⟨(some 11), none, .plain (.nilCheck (.tmp 3))⟩, [], []⟩,
     ⟨9, .chain, 0, ⟨none, none, .plain (.store 1 (.tmp 11) (.tmp 10))⟩, [], []⟩])
  (.both (.draw 0 [⟨0, .pure, 0, ⟨(some 12), none, .plain (.mov (.tmp 0))⟩, [], []⟩,
     ⟨1, .pure, 0, ⟨(some 13), none, .plain (.nilCheck (.tmp 12))⟩, [], []⟩,
     ⟨2, .read, 0, ⟨(some 14), none, .plain (.load none (.tmp 13))⟩, [], []⟩,
     ⟨3, .pure, 0, ⟨(some 15), none, .plain (.mov (.tmp 0))⟩, [], []⟩,
     ⟨4, .pure, 0, ⟨(some 16), none, .plain (.nilCheck (.tmp 15))⟩, [], []⟩,
     ⟨5, .read, 0, ⟨(some 17), none, .plain (.load none (.tmp 16))⟩, [], []⟩,
     ⟨6, .pure, 0, ⟨(some 18), none, .plain (.bin .shr (.tmp 17) (.const (.int .u64 7)))⟩, [], []⟩,
     ⟨7, .pure, 0, ⟨(some 19), none, .plain (.bin .xor (.tmp 14) (.tmp 18))⟩, [], []⟩,
     ⟨8, .pure, 0, ⟨(some 20), none, .plain (.nilCheck (.tmp 12))⟩, [], []⟩,
     ⟨9, .chain, 0, ⟨none, none, .plain (.store 1 (.tmp 20) (.tmp 19))⟩, [], []⟩])
  (.both (.draw 0 [⟨0, .pure, 0, ⟨(some 21), none, .plain (.mov (.tmp 0))⟩, [], []⟩,
     ⟨1, .pure, 0, ⟨(some 22), none, .plain (.nilCheck (.tmp 21))⟩, [], []⟩,
     ⟨2, .read, 0, ⟨(some 23), none, .plain (.load none (.tmp 22))⟩, [], []⟩,
     ⟨3, .pure, 0, ⟨(some 24), none, .plain (.mov (.tmp 0))⟩, [], []⟩,
     ⟨4, .pure, 0, ⟨(some 25), none, .plain (.nilCheck (.tmp 24))⟩, [], []⟩,
     ⟨5, .read, 0, ⟨(some 26), none, .plain (.load none (.tmp 25))⟩, [], []⟩,
     ⟨6, .pure, 0, ⟨(some 27), none, .plain (.bin .shl (.tmp 26) (.const (.int .u64 17)))⟩, [], []⟩,
     ⟨7, .pure, 0, ⟨(some 28), none, .plain (.bin .xor (.tmp 23) (.tmp 27))⟩, [], []⟩,
     ⟨8, .pure, 0, ⟨(some 29), none, .plain (.nilCheck (.tmp 21))⟩, [], []⟩,
     ⟨9, .chain, 0, ⟨none, none, .plain (.store 1 (.tmp 29) (.tmp 28))⟩, [], []⟩])
  (.both (.seq [⟨(some 30), none, .plain (.mov (.tmp 0))⟩,
     ⟨(some 31), none, .plain (.nilCheck (.tmp 30))⟩,
     ⟨(some 32), none, .plain (.load none (.tmp 31))⟩,
     ⟨(some 2), none, .plain (.mov (.tmp 32))⟩])
  .ret)))))⟩
/-- slices.medianAdjacentCmpFunc[fettle/api.Ext] -/
def a139 : AFunc := ⟨4, [.tmp 8],
  (.both (.seq [⟨(some 8), none, .plain (.mov (.const (.int .i64 0)))⟩])
  (.both (.seq [⟨(some 9), none, .plain (.mov (.tmp 0))⟩,
     ⟨(some 10), none, .plain (.mov (.tmp 1))⟩,
     ⟨(some 11), none, .plain (.bin .sub (.tmp 10) (.const (.int .i64 1)))⟩,
     ⟨(some 12), none, .plain (.mov (.tmp 1))⟩,
     ⟨(some 13), none, .plain (.mov (.tmp 1))⟩,
     ⟨(some 14), none, .plain (.bin .add (.tmp 13) (.const (.int .i64 1)))⟩,
     ⟨(some 15), none, .plain (.mov (.tmp 2))⟩,
     ⟨(some 16), none, .plain (.mov (.tmp 3))⟩,
     ⟨(some 17), none, .call 140 [(.tmp 9), (.tmp 11), (.tmp 12), (.tmp 14), (.tmp 15), (.tmp 16)]⟩,
     ⟨(some 8), none, .plain (.mov (.tmp 17))⟩])
  .ret))⟩
/-- slices.medianCmpFunc[fettle/api.Ext] -/
def a140 : AFunc := ⟨6, [.tmp 12],
  (.both (.seq [⟨(some 12), none, .plain (.mov (.const (.int .i64 0)))⟩])
  (.both (.seq [⟨(some 14), none, .plain (.mov (.tmp 0))⟩,
     ⟨(some 15), none, .plain (.mov (.tmp 1))⟩,
     ⟨(some 16), none, .plain (.mov (.tmp 2))⟩,
     ⟨(some 17), none, .plain (.mov (.tmp 4))⟩,
     ⟨(some 18), none, .plain (.mov (.tmp 5))⟩,
     ⟨(some 19), none, .call 141 [(.tmp 14), (.tmp 15), (.tmp 16), (.tmp 17), (.tmp 18)]⟩,
     ⟨(some 13), none, .plain (.mov (.tmp 19))⟩,
     ⟨(some 20), none, .plain (.extract (.tmp 13) 0)⟩,
     ⟨(some 21), none, .plain (.extract (.tmp 13) 1)⟩,
     ⟨(some 1), none, .plain (.mov (.tmp 20))⟩,
     ⟨(some 2), none, .plain (.mov (.tmp 21))⟩])
  (.both (.seq [⟨(some 23), none, .plain (.mov (.tmp 0))⟩,
     ⟨(some 24), none, .plain (.mov (.tmp 2))⟩,
     ⟨(some 25), none, .plain (.mov (.tmp 3))⟩,
     ⟨(some 26), none, .plain (.mov (.tmp 4))⟩,
     ⟨(some 27), none, .plain (.mov (.tmp 5))⟩,
     ⟨(some 28), none, .call 141 [(.tmp 23), (.tmp 24), (.tmp 25), (.tmp 26), (.tmp 27)]⟩,
     ⟨(some 22), none, .plain (.mov (.tmp 28))⟩,
     ⟨(some 29), none, .plain (.extract (.tmp 22) 0)⟩,
     ⟨(some 30), none, .plain (.extract (.tmp 22) 1)⟩,
     ⟨(some 2), none, .plain (.mov (.tmp 29))⟩,
     ⟨(some 3), none, .plain (.mov (.tmp 30))⟩])
  (.both (.seq [⟨(some 32), none, .plain (.mov (.tmp 0))⟩,
     ⟨(some 33), none, .plain (.mov (.tmp 1))⟩,
     ⟨(some 34), none, .plain (.mov (.tmp 2))⟩,
     ⟨(some 35), none, .plain (.mov (.tmp 4))⟩,
     ⟨(some 36), none, .plain (.mov (.tmp 5))⟩,
     ⟨(some 37), none, .call 141 [(.tmp 32), (.tmp 33), (.tmp 34), (.tmp 35), (.tmp 36)]⟩,
     ⟨(some 31), none, .plain (.mov (.tmp 37))⟩,
     ⟨(some 38), none, .plain (.extract (.tmp 31) 0)⟩,
     ⟨(some 39), none, .plain (.extract (.tmp 31) 1)⟩,
     ⟨(some 1), none, .plain (.mov (.tmp 38))⟩,
     ⟨(some 2), none, .plain (.mov (.tmp 39))⟩])
  (.both (.seq [⟨(some 40), none, .plain (.mov (.tmp 2))⟩,
     ⟨(some 12), none, .plain (.mov (.tmp 40))⟩])
  .ret)))))⟩
/-- slices.order2CmpFunc[fettle/api.Ext] -/
def a141 : AFunc := ⟨5, [.tmp 10, .tmp 11],
  (.both (.seq [⟨(some 10), none, .plain (.mov (.const (.int .i64 0)))⟩,
     ⟨(some 11), none, .plain (.mov (.const (.int .i64 0)))⟩])
  (.both (.both (.draw 0 [⟨0, .pure, 0, ⟨(some 12), none, .plain (.mov (.tmp 4))⟩, [], []⟩,
      ⟨1, .pure, 0, ⟨(some 13), none, .plain (.mov (.tmp 0))⟩, [], []⟩,
      ⟨2, .pure, 0, ⟨(some 14), none, .plain (.mov (.tmp 2))⟩, [], []⟩,
      ⟨3, .pure, 0, ⟨(some 15), none, .plain (.iaddr none 2 (.tmp 13) (.tmp 14))⟩, [], []⟩,
      ⟨4, .read, 0, ⟨(some 16), none, .plain (.load (some 2) (.tmp 15))⟩, [], []⟩,
      ⟨5, .pure, 0, ⟨(some 17), none, .plain (.mov (.tmp 0))⟩, [], []⟩,
      ⟨6, .pure, 0, ⟨(some 18), none, .plain (.mov (.tmp 1))⟩, [], []⟩,
      ⟨7, .pure, 0, ⟨(some 19), none, .plain (.iaddr none 2 (.tmp 17) (.tmp 18))⟩, [], []⟩,
      ⟨8, .read, 0, ⟨(some 20), none, .plain (.load (some 2) (.tmp 19))⟩, [], []⟩,
      ⟨9, .chain, 0, ⟨(some 21), none, .callv (.tmp 12) [(.tmp 16), (.tmp 20)]⟩, [], []⟩,
      ⟨10, .pure, 0, ⟨(some 22), none, .plain (.bin .lss (.tmp 21) (.const (.int .i64 0)))⟩, [], []⟩])
   (.cond (.tmp 22)
    (.both (.seq [⟨(some 23), none, .plain (.mov (.tmp 3))⟩,
       ⟨(some 24), none, .plain (.nilCheck (.tmp 23))⟩,
       ⟨(some 25), none, .plain (.load none (.tmp 24))⟩,
       ⟨(some 26), none, .plain (.bin .add (.tmp 25) (.const (.int .i64 1)))⟩,
       ⟨(some 27), none, .plain (.nilCheck (.tmp 23))⟩,
       ⟨none, none, .plain (.store 1 (.tmp 27) (.tmp 26))⟩])
    (.both (.seq [⟨(some 28), none, .plain (.mov (.tmp 2))⟩,
       ⟨(some 29), none, .plain (.mov (.tmp 1))⟩,
       ⟨(some 10), none, .plain (.mov (.tmp 28))⟩,
       ⟨(some 11), none, .plain (.mov (.tmp 29))⟩])
    .ret))
    .skip))
  (.both (.seq [⟨(some 30), none, .plain (.mov (.tmp 1))⟩,
     ⟨(some 31), none, .plain (.mov (.tmp 2))⟩,
     ⟨(some 10), none, .plain (.mov (.tmp 30))⟩,
     ⟨(some 11), none, .plain (.mov (.tmp 31))⟩])
  .ret)))⟩
/-- (fettle/fettleref13.Mem).Read -/
def a158 : AFunc := ⟨3, [.tmp 6, .tmp 7],
  (.both (.seq [⟨(some 6), none, .plain (.mov (.const (.slice none 0 0)))⟩,
     ⟨(some 7), none, .plain (.mov (.const (.int .i64 0)))⟩])
  (.both (.both (.seq [⟨(some 9), none, .plain (.mov (.tmp 1))⟩,
      ⟨(some 10), none, .plain (.bin .lss (.tmp 9) (.const (.int .i64 0)))⟩,
      ⟨(some 11), none, .plain (.mov (.tmp 10))⟩,
      ⟨(some 12), (some (11, false)), .plain (.mov (.tmp 2))⟩,
      ⟨(some 13), (some (11, false)), .plain (.bin .lss (.tmp 12) (.const (.int .i64 0)))⟩,
      ⟨(some 14), none, .plain (.pick (.tmp 11) (.const (.bool true)) (.tmp 13))⟩,
      ⟨(some 15), none, .plain (.mov (.tmp 14))⟩,
      ⟨(some 16), (some (15, false)), .plain (.mov (.tmp 1))⟩,
      ⟨(some 17), (some (15, false)), .plain (.mov (.tmp 0))⟩,
      ⟨(some 18), (some (15, false)), .call 159 [(.tmp 17)]⟩,
      ⟨(some 19), (some (15, false)), .plain (.bin .gtr (.tmp 16) (.tmp 18))⟩,
      ⟨(some 20), none, .plain (.pick (.tmp 15) (.const (.bool true)) (.tmp 19))⟩,
      ⟨(some 21), none, .plain (.mov (.tmp 20))⟩,
      ⟨(some 22), (some (21, false)), .plain (.mov (.tmp 2))⟩,
      ⟨(some 23), (some (21, false)), .plain (.mov (.tmp 0))⟩,
      ⟨(some 24), (some (21, false)), .call 159 [(.tmp 23)]⟩,
      ⟨(some 25), (some (21, false)), .plain (.mov (.tmp 1))⟩,
      ⟨(some 26), (some (21, false)), .plain (.bin .sub (.tmp 24) (.tmp 25))⟩,
      ⟨(some 27), (some (21, false)), .plain (.bin .gtr (.tmp 22) (.tmp 26))⟩,
      ⟨(some 28), none, .plain (.pick (.tmp 21) (.const (.bool true)) (.tmp 27))⟩])
   (.cond (.tmp 28)
    (.both (.seq [⟨(some 6), none, .plain (.mov (.const (.slice none 0 0)))⟩,
       ⟨(some 7), none, .plain (.mov (.const (.int .i64 4)))⟩])
    .ret)
    .skip))
  (.both (.seq [⟨(some 8), none, .plain (.mov (.const (.slice none 0 0)))⟩])
  (.both (.seq [⟨(some 29), none, .plain (.mov (.tmp 8))⟩,
     ⟨(some 30), none, .plain (.mov (.tmp 0))⟩,
     ⟨(some 31), none, .plain (.mov (.tmp 1))⟩,
     ⟨(some 32), none, .plain (.mov (.tmp 1))⟩,
     ⟨(some 33), none, .plain (.mov (.tmp 2))⟩,
     ⟨(some 34), none, .plain (.bin .add (.tmp 32) (.tmp 33))⟩,
     ⟨(some 35), none, .plain (.cut (.sl 1) (.tmp 30) (some (.tmp 31)) (some (.tmp 34)) none)⟩,
     ⟨(some 36), none, .plain (.append ⟨1, 1, [(.int .u8 0)]⟩ false (.tmp 29) (.tmp 35))⟩,
     ⟨(some 6), none, .plain (.mov (.tmp 36))⟩,
     ⟨(some 7), none, .plain (.mov (.const (.int .i64 0)))⟩])
  .ret))))⟩
/-- (fettle/fettleref13.Mem).Size -/
def a159 : AFunc := ⟨1, [.tmp 2],
  (.both (.seq [⟨(some 2), none, .plain (.mov (.const (.int .i64 0)))⟩])
  (.both (.seq [⟨(some 3), none, .plain (.mov (.tmp 0))⟩,
     ⟨(some 4), none, .plain (.len .sl (.tmp 3))⟩,
     ⟨(some 2), none, .plain (.mov (.tmp 4))⟩])
  .ret))⟩
/-- (fettle/parts.Mem).Read -/
def a160 : AFunc := ⟨3, [.tmp 6, .tmp 7],
  (.both (.seq [⟨(some 6), none, .plain (.mov (.const (.slice none 0 0)))⟩,
     ⟨(some 7), none, .plain (.mov (.const (.int .i64 0)))⟩])
  (.both (.both (.seq [⟨(some 8), none, .plain (.mov (.tmp 1))⟩,
      ⟨(some 9), none, .plain (.bin .lss (.tmp 8) (.const (.int .i64 0)))⟩,
      ⟨(some 10), none, .plain (.mov (.tmp 9))⟩,
      ⟨(some 11), (some (10, false)), .plain (.mov (.tmp 2))⟩,
      ⟨(some 12), (some (10, false)), .plain (.bin .lss (.tmp 11) (.const (.int .i64 0)))⟩,
      ⟨(some 13), none, .plain (.pick (.tmp 10) (.const (.bool true)) (.tmp 12))⟩,
      ⟨(some 14), none, .plain (.mov (.tmp 13))⟩,
      ⟨(some 15), (some (14, false)), .plain (.mov (.tmp 1))⟩,
      ⟨(some 16), (some (14, false)), .plain (.mov (.tmp 0))⟩,
      ⟨(some 17), (some (14, false)), .call 161 [(.tmp 16)]⟩,
      ⟨(some 18), (some (14, false)), .plain (.bin .gtr (.tmp 15) (.tmp 17))⟩,
      ⟨(some 19), none, .plain (.pick (.tmp 14) (.const (.bool true)) (.tmp 18))⟩,
      ⟨(some 20), none, .plain (.mov (.tmp 19))⟩,
      ⟨(some 21), (some (20, false)), .plain (.mov (.tmp 2))⟩,
      ⟨(some 22), (some (20, false)), .plain (.mov (.tmp 0))⟩,
      ⟨(some 23), (some (20, false)), .call 161 [(.tmp 22)]⟩,
      ⟨(some 24), (some (20, false)), .plain (.mov (.tmp 1))⟩,
      ⟨(some 25), (some (20, false)), .plain (.bin .sub (.tmp 23) (.tmp 24))⟩,
      ⟨(some 26), (some (20, false)), .plain (.bin .gtr (.tmp 21) (.tmp 25))⟩,
      ⟨(some 27), none, .plain (.pick (.tmp 20) (.const (.bool true)) (.tmp 26))⟩])
   (.cond (.tmp 27)
    (.both (.seq [⟨(some 6), none, .plain (.mov (.const (.slice none 0 0)))⟩,
       ⟨(some 7), none, .plain (.mov (.const (.int .i64 4)))⟩])
    .ret)
    .skip))
  (.both (.seq [⟨(some 28), none, .plain (.mov (.tmp 0))⟩,
     ⟨(some 29), none, .plain (.mov (.tmp 1))⟩,
     ⟨(some 30), none, .plain (.mov (.tmp 1))⟩,
     ⟨(some 31), none, .plain (.mov (.tmp 2))⟩,
     ⟨(some 32), none, .plain (.bin .add (.tmp 30) (.tmp 31))⟩,
     ⟨(some 33), none, .plain (.cut (.sl 1) (.tmp 28) (some (.tmp 29)) (some (.tmp 32)) none)⟩,
     ⟨(some 34), none, .plain (.append ⟨1, 1, [(.int .u8 0)]⟩ false (.const (.slice none 0 0)) (.tmp 33))⟩,
     ⟨(some 6), none, .plain (.mov (.tmp 34))⟩,
     ⟨(some 7), none, .plain (.mov (.const (.int .i64 0)))⟩])
  .ret)))⟩
/-- (fettle/parts.Mem).Size -/
def a161 : AFunc := ⟨1, [.tmp 2],
  (.both (.seq [⟨(some 2), none, .plain (.mov (.const (.int .i64 0)))⟩])
  (.both (.seq [⟨(some 3), none, .plain (.mov (.tmp 0))⟩,
     ⟨(some 4), none, .plain (.len .sl (.tmp 3))⟩,
     ⟨(some 2), none, .plain (.mov (.tmp 4))⟩])
  .ret))⟩
def tabL : List (FuncId × AEntry) := [(6, .code a6), (9, .code a9), (16, .code a16), (18, .code a18), (30, .code a30), (35, .code a35), (36, .code a36), (37, .code a37), (38, .code a38), (39, .code a39), (41, .code a41), (42, .code a42), (43, .code a43), (44, .code a44), (54, .code a54), (58, .code a58), (59, .code a59), (65, .code a65), (66, .code a66), (67, .code a67), (68, .code a68), (69, .code a69), (70, .code a70), (71, .code a71), (87, .code a87), (89, .code a89), (91, .code a91), (92, .code a92), (94, .code a94), (95, .code a95), (96, .code a96), (105, .code a105), (106, .code a106), (107, .code a107), (108, .code a108), (109, .code a109), (117, .code a117), (118, .code a118), (119, .code a119), (120, .code a120), (125, .code a125), (126, .code a126), (127, .code a127), (128, .code a128), (129, .code a129), (130, .code a130), (131, .code a131), (132, .code a132), (133, .code a133), (134, .code a134), (136, .code a136), (137, .code a137), (138, .code a138), (139, .code a139), (140, .code a140), (141, .code a141), (158, .code a158), (159, .code a159), (160, .code a160), (161, .code a161)]
def tab : Tr AEntry := (.node none (.node none (.node none (.node none (.node none (.node none (.node none (.node (some (.code a127)) .leaf .leaf) .leaf) (.node (some (.code a95)) (.node (some (.code a159)) .leaf .leaf) .leaf)) .leaf) (.node none (.node (some (.code a39)) (.node (some (.code a71)) .leaf .leaf) .leaf) (.node none (.node (some (.code a87)) .leaf .leaf) (.node (some (.code a119)) .leaf .leaf)))) (.node none (.node none (.node (some (.code a35)) (.node (some (.code a67)) (.node (some (.code a131)) .leaf .leaf) .leaf) .leaf) .leaf) (.node none (.node (some (.code a43)) (.node none (.node (some (.code a139)) .leaf .leaf) .leaf) (.node (some (.code a107)) .leaf .leaf)) (.node (some (.code a59)) (.node (some (.code a91)) .leaf .leaf) .leaf)))) (.node none (.node (some (.code a9)) (.node none (.node none (.node (some (.code a65)) (.node (some (.code a129)) .leaf .leaf) .leaf) (.node none (.node (some (.code a161)) .leaf .leaf) .leaf)) .leaf) (.node none (.node (some (.code a41)) (.node none (.node (some (.code a137)) .leaf .leaf) .leaf) (.node (some (.code a105)) .leaf .leaf)) (.node none (.node (some (.code a89)) .leaf .leaf) .leaf))) (.node none (.node none (.node (some (.code a37)) (.node (some (.code a69)) (.node (some (.code a133)) .leaf .leaf) .leaf) .leaf) (.node none .leaf (.node (some (.code a117)) .leaf .leaf))) (.node none (.node none (.node none (.node (some (.code a141)) .leaf .leaf) .leaf) (.node (some (.code a109)) .leaf .leaf)) (.node none .leaf (.node (some (.code a125)) .leaf .leaf)))))) (.node none (.node none (.node none (.node (some (.code a16)) (.node none (.node none (.node (some (.code a128)) .leaf .leaf) .leaf) (.node (some (.code a96)) (.node (some (.code a160)) .leaf .leaf) .leaf)) .leaf) (.node none (.node none (.node none (.node (some (.code a136)) .leaf .leaf) .leaf) .leaf) (.node none .leaf (.node (some (.code a120)) .leaf .leaf)))) (.node none (.node none (.node (some (.code a36)) (.node (some (.code a68)) (.node (some (.code a132)) .leaf .leaf) .leaf) .leaf) .leaf) (.node none (.node (some (.code a44)) (.node none (.node (some (.code a140)) .leaf .leaf) .leaf) (.node (some (.code a108)) .leaf .leaf)) (.node none (.node (some (.code a92)) .leaf .leaf) .leaf)))) (.node (some (.code a6)) (.node none (.node (some (.code a18)) (.node none (.node (some (.code a66)) (.node (some (.code a130)) .leaf .leaf) .leaf) .leaf) .leaf) (.node none (.node (some (.code a42)) (.node none (.node (some (.code a138)) .leaf .leaf) .leaf) (.node (some (.code a106)) .leaf .leaf)) (.node (some (.code a58)) .leaf .leaf))) (.node none (.node none (.node (some (.code a38)) (.node (some (.code a70)) (.node (some (.code a134)) .leaf .leaf) .leaf) .leaf) (.node (some (.code a54)) .leaf (.node (some (.code a118)) .leaf .leaf))) (.node (some (.code a30)) .leaf (.node none (.node (some (.code a94)) (.node (some (.code a158)) .leaf .leaf) .leaf) (.node (some (.code a126)) .leaf .leaf)))))))
theorem ok6 : callOk Try.prog 6 = true ∧ compF Try.prog 6 = some a6 := ⟨by kernel_rfl, by kernel_rfl⟩
theorem ok9 : callOk Try.prog 9 = true ∧ compF Try.prog 9 = some a9 := ⟨by kernel_rfl, by kernel_rfl⟩
theorem ok16 : callOk Try.prog 16 = true ∧ compF Try.prog 16 = some a16 := ⟨by kernel_rfl, by kernel_rfl⟩
theorem ok18 : callOk Try.prog 18 = true ∧ compF Try.prog 18 = some a18 := ⟨by kernel_rfl, by kernel_rfl⟩
theorem ok30 : callOk Try.prog 30 = true ∧ compF Try.prog 30 = some a30 := ⟨by kernel_rfl, by kernel_rfl⟩
theorem ok35 : callOk Try.prog 35 = true ∧ compF Try.prog 35 = some a35 := ⟨by kernel_rfl, by kernel_rfl⟩
theorem ok36 : callOk Try.prog 36 = true ∧ compF Try.prog 36 = some a36 := ⟨by kernel_rfl, by kernel_rfl⟩
theorem ok37 : callOk Try.prog 37 = true ∧ compF Try.prog 37 = some a37 := ⟨by kernel_rfl, by kernel_rfl⟩
theorem ok38 : callOk Try.prog 38 = true ∧ compF Try.prog 38 = some a38 := ⟨by kernel_rfl, by kernel_rfl⟩
theorem ok39 : callOk Try.prog 39 = true ∧ compF Try.prog 39 = some a39 := ⟨by kernel_rfl, by kernel_rfl⟩
theorem ok41 : callOk Try.prog 41 = true ∧ compF Try.prog 41 = some a41 := ⟨by kernel_rfl, by kernel_rfl⟩
theorem ok42 : callOk Try.prog 42 = true ∧ compF Try.prog 42 = some a42 := ⟨by kernel_rfl, by kernel_rfl⟩
theorem ok43 : callOk Try.prog 43 = true ∧ compF Try.prog 43 = some a43 := ⟨by kernel_rfl, by kernel_rfl⟩
theorem ok44 : callOk Try.prog 44 = true ∧ compF Try.prog 44 = some a44 := ⟨by kernel_rfl, by kernel_rfl⟩
theorem ok54 : callOk Try.prog 54 = true ∧ compF Try.prog 54 = some a54 := ⟨by kernel_rfl, by kernel_rfl⟩
theorem ok58 : callOk Try.prog 58 = true ∧ compF Try.prog 58 = some a58 := ⟨by kernel_rfl, by kernel_rfl⟩
theorem ok59 : callOk Try.prog 59 = true ∧ compF Try.prog 59 = some a59 := ⟨by kernel_rfl, by kernel_rfl⟩
theorem ok65 : callOk Try.prog 65 = true ∧ compF Try.prog 65 = some a65 := ⟨by kernel_rfl, by kernel_rfl⟩
theorem ok66 : callOk Try.prog 66 = true ∧ compF Try.prog 66 = some a66 := ⟨by kernel_rfl, by kernel_rfl⟩
theorem ok67 : callOk Try.prog 67 = true ∧ compF Try.prog 67 = some a67 := ⟨by kernel_rfl, by kernel_rfl⟩
theorem ok68 : callOk Try.prog 68 = true ∧ compF Try.prog 68 = some a68 := ⟨by kernel_rfl, by kernel_rfl⟩
theorem ok69 : callOk Try.prog 69 = true ∧ compF Try.prog 69 = some a69 := ⟨by kernel_rfl, by kernel_rfl⟩
theorem ok70 : callOk Try.prog 70 = true ∧ compF Try.prog 70 = some a70 := ⟨by kernel_rfl, by kernel_rfl⟩
theorem ok71 : callOk Try.prog 71 = true ∧ compF Try.prog 71 = some a71 := ⟨by kernel_rfl, by kernel_rfl⟩
theorem ok87 : callOk Try.prog 87 = true ∧ compF Try.prog 87 = some a87 := ⟨by kernel_rfl, by kernel_rfl⟩
theorem ok89 : callOk Try.prog 89 = true ∧ compF Try.prog 89 = some a89 := ⟨by kernel_rfl, by kernel_rfl⟩
theorem ok91 : callOk Try.prog 91 = true ∧ compF Try.prog 91 = some a91 := ⟨by kernel_rfl, by kernel_rfl⟩
theorem ok92 : callOk Try.prog 92 = true ∧ compF Try.prog 92 = some a92 := ⟨by kernel_rfl, by kernel_rfl⟩
theorem ok94 : callOk Try.prog 94 = true ∧ compF Try.prog 94 = some a94 := ⟨by kernel_rfl, by kernel_rfl⟩
theorem ok95 : callOk Try.prog 95 = true ∧ compF Try.prog 95 = some a95 := ⟨by kernel_rfl, by kernel_rfl⟩
theorem ok96 : callOk Try.prog 96 = true ∧ compF Try.prog 96 = some a96 := ⟨by kernel_rfl, by kernel_rfl⟩
theorem ok105 : callOk Try.prog 105 = true ∧ compF Try.prog 105 = some a105 := ⟨by kernel_rfl, by kernel_rfl⟩
theorem ok106 : callOk Try.prog 106 = true ∧ compF Try.prog 106 = some a106 := ⟨by kernel_rfl, by kernel_rfl⟩
theorem ok107 : callOk Try.prog 107 = true ∧ compF Try.prog 107 = some a107 := ⟨by kernel_rfl, by kernel_rfl⟩
theorem ok108 : callOk Try.prog 108 = true ∧ compF Try.prog 108 = some a108 := ⟨by kernel_rfl, by kernel_rfl⟩
theorem ok109 : callOk Try.prog 109 = true ∧ compF Try.prog 109 = some a109 := ⟨by kernel_rfl, by kernel_rfl⟩
theorem ok117 : callOk Try.prog 117 = true ∧ compF Try.prog 117 = some a117 := ⟨by kernel_rfl, by kernel_rfl⟩
theorem ok118 : callOk Try.prog 118 = true ∧ compF Try.prog 118 = some a118 := ⟨by kernel_rfl, by kernel_rfl⟩
theorem ok119 : callOk Try.prog 119 = true ∧ compF Try.prog 119 = some a119 := ⟨by kernel_rfl, by kernel_rfl⟩
theorem ok120 : callOk Try.prog 120 = true ∧ compF Try.prog 120 = some a120 := ⟨by kernel_rfl, by kernel_rfl⟩
theorem ok125 : callOk Try.prog 125 = true ∧ compF Try.prog 125 = some a125 := ⟨by kernel_rfl, by kernel_rfl⟩
theorem ok126 : callOk Try.prog 126 = true ∧ compF Try.prog 126 = some a126 := ⟨by kernel_rfl, by kernel_rfl⟩
theorem ok127 : callOk Try.prog 127 = true ∧ compF Try.prog 127 = some a127 := ⟨by kernel_rfl, by kernel_rfl⟩
theorem ok128 : callOk Try.prog 128 = true ∧ compF Try.prog 128 = some a128 := ⟨by kernel_rfl, by kernel_rfl⟩
theorem ok129 : callOk Try.prog 129 = true ∧ compF Try.prog 129 = some a129 := ⟨by kernel_rfl, by kernel_rfl⟩
theorem ok130 : callOk Try.prog 130 = true ∧ compF Try.prog 130 = some a130 := ⟨by kernel_rfl, by kernel_rfl⟩
theorem ok131 : callOk Try.prog 131 = true ∧ compF Try.prog 131 = some a131 := ⟨by kernel_rfl, by kernel_rfl⟩
theorem ok132 : callOk Try.prog 132 = true ∧ compF Try.prog 132 = some a132 := ⟨by kernel_rfl, by kernel_rfl⟩
theorem ok133 : callOk Try.prog 133 = true ∧ compF Try.prog 133 = some a133 := ⟨by kernel_rfl, by kernel_rfl⟩
theorem ok134 : callOk Try.prog 134 = true ∧ compF Try.prog 134 = some a134 := ⟨by kernel_rfl, by kernel_rfl⟩
theorem ok136 : callOk Try.prog 136 = true ∧ compF Try.prog 136 = some a136 := ⟨by kernel_rfl, by kernel_rfl⟩
theorem ok137 : callOk Try.prog 137 = true ∧ compF Try.prog 137 = some a137 := ⟨by kernel_rfl, by kernel_rfl⟩
theorem ok138 : callOk Try.prog 138 = true ∧ compF Try.prog 138 = some a138 := ⟨by kernel_rfl, by kernel_rfl⟩
theorem ok139 : callOk Try.prog 139 = true ∧ compF Try.prog 139 = some a139 := ⟨by kernel_rfl, by kernel_rfl⟩
theorem ok140 : callOk Try.prog 140 = true ∧ compF Try.prog 140 = some a140 := ⟨by kernel_rfl, by kernel_rfl⟩
theorem ok141 : callOk Try.prog 141 = true ∧ compF Try.prog 141 = some a141 := ⟨by kernel_rfl, by kernel_rfl⟩
theorem ok158 : callOk Try.prog 158 = true ∧ compF Try.prog 158 = some a158 := ⟨by kernel_rfl, by kernel_rfl⟩
theorem ok159 : callOk Try.prog 159 = true ∧ compF Try.prog 159 = some a159 := ⟨by kernel_rfl, by kernel_rfl⟩
theorem ok160 : callOk Try.prog 160 = true ∧ compF Try.prog 160 = some a160 := ⟨by kernel_rfl, by kernel_rfl⟩
theorem ok161 : callOk Try.prog 161 = true ∧ compF Try.prog 161 = some a161 := ⟨by kernel_rfl, by kernel_rfl⟩
theorem tabOk : TabSound Try.prog (fun f => tab.get f) := tr_sound (l := tabL) (by kernel_rfl) ⟨ok6, ok9, ok16, ok18, ok30, ok35, ok36, ok37, ok38, ok39, ok41, ok42, ok43, ok44, ok54, ok58, ok59, ok65, ok66, ok67, ok68, ok69, ok70, ok71, ok87, ok89, ok91, ok92, ok94, ok95, ok96, ok105, ok106, ok107, ok108, ok109, ok117, ok118, ok119, ok120, ok125, ok126, ok127, ok128, ok129, ok130, ok131, ok132, ok133, ok134, ok136, ok137, ok138, ok139, ok140, ok141, ok158, ok159, ok160, ok161, trivial⟩
theorem follows : Try.prog.follows .mixedOrders = true := by kernel_rfl
end Go.Proofs.Ytphnlkdoeecbgaa.AMC
