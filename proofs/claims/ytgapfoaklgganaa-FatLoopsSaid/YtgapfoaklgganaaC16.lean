import Derived.Test.YtgapfoaklgganaaProg
import Derived.Test.YtgapfoaklgganaaAM28
set_option maxRecDepth 100000
/-! The compiled functions; written by a program. -/
namespace Go.Proofs.Ytgapfoaklgganaa.AMC
open Go Go.AM Go.Proofs
/-- fettle/fettlelaw16.FatLoops -/
def a8 : AFunc := ⟨3, [.tmp 6],
  (.both (.seq [⟨(some 6), none, .plain (.mov (.const (.bool false)))⟩])
  (.both (.both (.seq [⟨(some 22), none, .call 21 []⟩,
      ⟨(some 23), none, .plain (.un .not (.tmp 22))⟩])
   (.cond (.tmp 23)
    (.both (.seq [⟨(some 6), none, .plain (.mov (.const (.bool false)))⟩])
    .ret)
    .skip))
  (.both (.seq [⟨(some 24), none, .plain (.mov (.tmp 0))⟩,
     ⟨(some 25), none, .plain (.conv (.int .u64) (.tmp 24))⟩,
     ⟨(some 26), none, .plain (.bin .rem (.tmp 25) (.const (.int .u64 100)))⟩,
     ⟨(some 27), none, .plain (.conv (.int .i64) (.tmp 26))⟩,
     ⟨(some 28), none, .plain (.bin .add (.const (.int .i64 1)) (.tmp 27))⟩,
     ⟨(some 7), none, .plain (.mov (.tmp 28))⟩])
  (.both (.seq [⟨(some 29), none, .plain (.mov (.tmp 1))⟩,
     ⟨(some 30), none, .plain (.conv (.int .u64) (.tmp 29))⟩,
     ⟨(some 31), none, .plain (.mov (.tmp 7))⟩,
     ⟨(some 32), none, .plain (.conv (.int .u64) (.tmp 31))⟩,
     ⟨(some 33), none, .plain (.bin .rem (.tmp 30) (.tmp 32))⟩,
     ⟨(some 34), none, .plain (.conv (.int .i64) (.tmp 33))⟩,
     ⟨(some 8), none, .plain (.mov (.tmp 34))⟩])
  (.both (.seq [⟨(some 36), none, .call 40 [(.const (.int .i64 150)), (.const (.int .i64 1))]⟩,
     ⟨(some 35), none, .plain (.mov (.tmp 36))⟩,
     ⟨(some 37), none, .plain (.extract (.tmp 35) 0)⟩,
     ⟨(some 38), none, .plain (.extract (.tmp 35) 1)⟩,
     ⟨(some 9), none, .plain (.mov (.tmp 37))⟩,
     ⟨(some 10), none, .plain (.mov (.tmp 38))⟩])
  (.both (.seq [⟨(some 40), none, .plain (.mov (.tmp 9))⟩,
     ⟨(some 41), none, .plain (.cut (.sl 1) (.tmp 40) none (some (.const (.int .i64 512))) none)⟩,
     ⟨(some 42), none, .call 45 [(.tmp 41)]⟩,
     ⟨(some 39), none, .plain (.mov (.tmp 42))⟩,
     ⟨(some 43), none, .plain (.extract (.tmp 39) 0)⟩,
     ⟨(some 44), none, .plain (.extract (.tmp 39) 1)⟩,
     ⟨(some 11), none, .plain (.alloc [(.int .i64 0), (.int .i64 0), (.int .i64 0), (.int .i64 0), (.int .i64 0), (.int .i64 0), (.int .i64 0), (.int .i64 0)])⟩,
     ⟨none, none, .plain (.store 8 (.tmp 11) (.tmp 43))⟩,
     ⟨(some 12), none, .plain (.mov (.tmp 44))⟩])
  (.both (.seq [⟨(some 13), none, .plain (.mov (.const (.slice none 0 0)))⟩])
  (.both (.both (.seq [⟨(some 14), none, .plain (.mov (.const (.int .i64 0)))⟩])
   (.block 0 (.loop (.both (.both (.seq [⟨(some 45), none, .plain (.mov (.tmp 14))⟩,
         ⟨(some 46), none, .plain (.mov (.tmp 7))⟩,
         ⟨(some 47), none, .plain (.bin .lss (.tmp 45) (.tmp 46))⟩])
      (.cond (.tmp 47)
       .skip
       (.exit 0)))
     (.both (.block 1 (.both (.seq [⟨(some 50), none, .plain (.mov (.tmp 14))⟩,
          ⟨(some 51), none, .plain (.bin .add (.const (.int .i64 3)) (.tmp 50))⟩,
          ⟨(some 52), none, .plain (.bin .add (.tmp 51) (.const (.int .i64 1)))⟩,
          ⟨(some 53), none, .plain (.conv (.int .u64) (.tmp 52))⟩,
          ⟨(some 15), none, .plain (.mov (.tmp 53))⟩])
       (.both (.both (.seq [⟨(some 54), none, .plain (.mov (.tmp 14))⟩,
           ⟨(some 55), none, .plain (.mov (.tmp 7))⟩,
           ⟨(some 56), none, .plain (.bin .sub (.tmp 55) (.const (.int .i64 1)))⟩,
           ⟨(some 57), none, .plain (.bin .eql (.tmp 54) (.tmp 56))⟩])
        (.cond (.tmp 57)
         (.seq [⟨(some 58), none, .plain (.mov (.tmp 8))⟩,
           ⟨(some 59), none, .plain (.bin .add (.const (.int .i64 3)) (.tmp 58))⟩,
           ⟨(some 60), none, .plain (.conv (.int .u64) (.tmp 59))⟩,
           ⟨(some 15), none, .plain (.mov (.tmp 60))⟩])
         .skip))
       (.both (.both (.seq [⟨(some 61), none, .plain (.mov (.tmp 14))⟩,
           ⟨(some 62), none, .plain (.mov (.tmp 7))⟩,
           ⟨(some 63), none, .plain (.bin .sub (.tmp 62) (.const (.int .i64 1)))⟩,
           ⟨(some 64), none, .plain (.bin .eql (.tmp 61) (.tmp 63))⟩,
           ⟨(some 65), none, .plain (.mov (.tmp 64))⟩,
           ⟨(some 66), (some (65, true)), .plain (.mov (.tmp 2))⟩,
           ⟨(some 67), none, .plain (.pick (.tmp 65) (.tmp 66) (.const (.bool false)))⟩])
        (.cond (.tmp 67)
         (.seq [⟨(some 15), none, .plain (.mov (.const (.int .u64 268435455)))⟩])
         .skip))
       (.seq [⟨(some 68), none, .plain (.mov (.tmp 13))⟩,
         ⟨(some 69), none, .plain (.mov (.tmp 15))⟩,
         ⟨(some 70), none, .call 46 [(.tmp 69), (.const (.int .i64 4))]⟩,
         ⟨(some 71), none, .plain (.append ⟨1, 1, [(.int .u8 0)]⟩ false (.tmp 68) (.tmp 70))⟩,
         ⟨(some 13), none, .plain (.mov (.tmp 71))⟩])))))
     (.seq [⟨(some 48), none, .plain (.mov (.tmp 14))⟩,
       ⟨(some 49), none, .plain (.bin .add (.tmp 48) (.const (.int .i64 1)))⟩,
       ⟨(some 14), none, .plain (.mov (.tmp 49))⟩]))))))
  (.both (.both (.seq [⟨(some 16), none, .plain (.mov (.const (.int .i64 0)))⟩])
   (.block 2 (.loop (.both (.both (.seq [⟨(some 72), none, .plain (.mov (.tmp 16))⟩,
         ⟨(some 73), none, .plain (.faddr 2 (.tmp 11))⟩,
         ⟨(some 74), none, .plain (.load none (.tmp 73))⟩,
         ⟨(some 75), none, .plain (.bin .lss (.tmp 72) (.tmp 74))⟩])
      (.cond (.tmp 75)
       .skip
       (.exit 2)))
     (.both (.block 3 (.seq [⟨(some 78), none, .plain (.mov (.tmp 9))⟩,
         ⟨(some 79), none, .plain (.faddr 1 (.tmp 11))⟩,
         ⟨(some 80), none, .plain (.load none (.tmp 79))⟩,
         ⟨(some 81), none, .plain (.mov (.tmp 16))⟩,
         ⟨(some 82), none, .plain (.faddr 4 (.tmp 11))⟩,
         ⟨(some 83), none, .plain (.load none (.tmp 82))⟩,
         ⟨(some 84), none, .plain (.bin .mul (.tmp 81) (.tmp 83))⟩,
         ⟨(some 85), none, .plain (.bin .add (.tmp 80) (.tmp 84))⟩,
         ⟨(some 86), none, .plain (.bin .mul (.const (.int .i64 512)) (.tmp 85))⟩,
         ⟨(some 87), none, .plain (.bin .add (.tmp 86) (.const (.int .i64 12)))⟩,
         ⟨(some 88), none, .plain (.mov (.tmp 13))⟩,
         ⟨(some 89), none, .call 36 [(.tmp 78), (.tmp 87), (.tmp 88)]⟩,
         ⟨(some 9), none, .plain (.mov (.tmp 89))⟩]))
     (.seq [⟨(some 76), none, .plain (.mov (.tmp 16))⟩,
       ⟨(some 77), none, .plain (.bin .add (.tmp 76) (.const (.int .i64 1)))⟩,
       ⟨(some 16), none, .plain (.mov (.tmp 77))⟩]))))))
  (.both (.seq [⟨(some 90), none, .plain (.mov (.tmp 9))⟩,
     ⟨(some 91), none, .call 46 [(.const (.int .u64 4294967295)), (.const (.int .i64 4))]⟩,
     ⟨(some 92), none, .call 36 [(.tmp 90), (.const (.int .i64 1000)), (.tmp 91)]⟩,
     ⟨(some 9), none, .plain (.mov (.tmp 92))⟩])
  (.both (.seq [⟨(some 94), none, .plain (.mov (.tmp 9))⟩,
     ⟨(some 95), none, .plain (.iface 82 (.tmp 94))⟩,
     ⟨(some 96), none, .call 41 [(.tmp 95)]⟩,
     ⟨(some 93), none, .plain (.mov (.tmp 96))⟩,
     ⟨(some 97), none, .plain (.extract (.tmp 93) 0)⟩,
     ⟨(some 98), none, .plain (.extract (.tmp 93) 1)⟩,
     ⟨(some 17), none, .plain (.mov (.tmp 97))⟩,
     ⟨(some 18), none, .plain (.mov (.tmp 98))⟩])
  (.both (.both (.seq [⟨(some 99), none, .plain (.mov (.tmp 18))⟩,
      ⟨(some 100), none, .plain (.bin .neq (.tmp 99) (.const (.int .i64 0)))⟩])
   (.cond (.tmp 100)
    (.both (.seq [⟨(some 6), none, .plain (.mov (.const (.bool false)))⟩])
    .ret)
    .skip))
  (.both (.seq [⟨(some 102), none, .plain (.mov (.tmp 17))⟩,
     ⟨(some 103), none, .call 47 [(.tmp 102), (.const (.int .i64 3)), (.const (.map none))]⟩,
     ⟨(some 101), none, .plain (.mov (.tmp 103))⟩,
     ⟨(some 104), none, .plain (.extract (.tmp 101) 0)⟩,
     ⟨(some 105), none, .plain (.extract (.tmp 101) 1)⟩,
     ⟨(some 19), none, .plain (.mov (.tmp 104))⟩,
     ⟨(some 20), none, .plain (.mov (.tmp 105))⟩])
  (.both (.both (.seq [⟨(some 106), none, .plain (.mov (.tmp 2))⟩,
      ⟨(some 107), none, .plain (.un .not (.tmp 106))⟩])
   (.cond (.tmp 107)
    (.both (.seq [⟨(some 108), none, .plain (.mov (.tmp 20))⟩,
       ⟨(some 109), none, .plain (.bin .eql (.tmp 108) (.const (.int .i64 13)))⟩,
       ⟨(some 110), none, .plain (.mov (.tmp 109))⟩,
       ⟨(some 111), (some (110, true)), .plain (.mov (.tmp 19))⟩,
       ⟨(some 112), (some (110, true)), .plain (.len .sl (.tmp 111))⟩,
       ⟨(some 113), (some (110, true)), .plain (.bin .eql (.tmp 112) (.const (.int .i64 0)))⟩,
       ⟨(some 114), none, .plain (.pick (.tmp 110) (.tmp 113) (.const (.bool false)))⟩,
       ⟨(some 6), none, .plain (.mov (.tmp 114))⟩])
    .ret)
    .skip))
  (.both (.both (.seq [⟨(some 115), none, .plain (.mov (.tmp 20))⟩,
      ⟨(some 116), none, .plain (.bin .neq (.tmp 115) (.const (.int .i64 0)))⟩,
      ⟨(some 117), none, .plain (.mov (.tmp 116))⟩,
      ⟨(some 118), (some (117, false)), .plain (.mov (.tmp 19))⟩,
      ⟨(some 119), (some (117, false)), .plain (.len .sl (.tmp 118))⟩,
      ⟨(some 120), (some (117, false)), .plain (.mov (.tmp 7))⟩,
      ⟨(some 121), (some (117, false)), .plain (.bin .neq (.tmp 119) (.tmp 120))⟩,
      ⟨(some 122), none, .plain (.pick (.tmp 117) (.const (.bool true)) (.tmp 121))⟩])
   (.cond (.tmp 122)
    (.both (.seq [⟨(some 6), none, .plain (.mov (.const (.bool false)))⟩])
    .ret)
    .skip))
  (.both (.both (.seq [⟨(some 21), none, .plain (.mov (.const (.int .i64 0)))⟩])
   (.block 4 (.loop (.both (.both (.seq [⟨(some 123), none, .plain (.mov (.tmp 21))⟩,
         ⟨(some 124), none, .plain (.mov (.tmp 7))⟩,
         ⟨(some 125), none, .plain (.bin .lss (.tmp 123) (.tmp 124))⟩])
      (.cond (.tmp 125)
       .skip
       (.exit 4)))
     (.both (.block 5 (.both (.seq [⟨(some 128), none, .plain (.mov (.tmp 19))⟩,
          ⟨(some 129), none, .plain (.mov (.tmp 21))⟩,
          ⟨(some 130), none, .plain (.iaddr none 1 (.tmp 128) (.tmp 129))⟩,
          ⟨(some 131), none, .plain (.load none (.tmp 130))⟩,
          ⟨(some 132), none, .plain (.mov (.tmp 21))⟩,
          ⟨(some 133), none, .plain (.bin .add (.const (.int .i64 3)) (.tmp 132))⟩,
          ⟨(some 134), none, .plain (.bin .neq (.tmp 131) (.tmp 133))⟩])
       (.cond (.tmp 134)
        (.both (.seq [⟨(some 6), none, .plain (.mov (.const (.bool false)))⟩])
        .ret)
        .skip)))
     (.seq [⟨(some 126), none, .plain (.mov (.tmp 21))⟩,
       ⟨(some 127), none, .plain (.bin .add (.tmp 126) (.const (.int .i64 1)))⟩,
       ⟨(some 21), none, .plain (.mov (.tmp 127))⟩]))))))
  (.both (.seq [⟨(some 6), none, .plain (.mov (.const (.bool true)))⟩])
  .ret)))))))))))))))))⟩
/-- fettle/fettlelaw16.FatNils -/
def a10 : AFunc := ⟨1, [.tmp 2],
  (.both (.seq [⟨(some 2), none, .plain (.mov (.const (.bool false)))⟩])
  (.both (.seq [⟨(some 9), none, .call 41 [(.const .nilIface)]⟩,
     ⟨(some 8), none, .plain (.mov (.tmp 9))⟩,
     ⟨(some 10), none, .plain (.extract (.tmp 8) 0)⟩,
     ⟨(some 11), none, .plain (.extract (.tmp 8) 1)⟩,
     ⟨(some 3), none, .plain (.mov (.tmp 10))⟩,
     ⟨(some 4), none, .plain (.mov (.tmp 11))⟩])
  (.both (.seq [⟨(some 5), none, .plain (.mov (.const (.pointer none)))⟩])
  (.both (.seq [⟨(some 13), none, .plain (.mov (.tmp 5))⟩,
     ⟨(some 14), none, .plain (.mov (.tmp 0))⟩,
     ⟨(some 15), none, .call 47 [(.tmp 13), (.tmp 14), (.const (.map none))]⟩,
     ⟨(some 12), none, .plain (.mov (.tmp 15))⟩,
     ⟨(some 16), none, .plain (.extract (.tmp 12) 0)⟩,
     ⟨(some 17), none, .plain (.extract (.tmp 12) 1)⟩,
     ⟨(some 6), none, .plain (.mov (.tmp 16))⟩,
     ⟨(some 7), none, .plain (.mov (.tmp 17))⟩])
  (.both (.seq [⟨(some 18), none, .call 21 []⟩,
     ⟨(some 19), none, .plain (.mov (.tmp 18))⟩,
     ⟨(some 20), (some (19, true)), .plain (.mov (.tmp 4))⟩,
     ⟨(some 21), (some (19, true)), .plain (.bin .eql (.tmp 20) (.const (.int .i64 2)))⟩,
     ⟨(some 22), none, .plain (.pick (.tmp 19) (.tmp 21) (.const (.bool false)))⟩,
     ⟨(some 23), none, .plain (.mov (.tmp 22))⟩,
     ⟨(some 24), (some (23, true)), .plain (.mov (.tmp 7))⟩,
     ⟨(some 25), (some (23, true)), .plain (.bin .eql (.tmp 24) (.const (.int .i64 2)))⟩,
     ⟨(some 26), none, .plain (.pick (.tmp 23) (.tmp 25) (.const (.bool false)))⟩,
     ⟨(some 27), none, .plain (.mov (.tmp 26))⟩,
     ⟨(some 28), (some (27, true)), .plain (.mov (.tmp 5))⟩,
     ⟨(some 29), (some (27, true)), .call 42 [(.tmp 28)]⟩,
     ⟨(some 30), (some (27, true)), .plain (.len .sl (.tmp 29))⟩,
     ⟨(some 31), (some (27, true)), .plain (.bin .eql (.tmp 30) (.const (.int .i64 0)))⟩,
     ⟨(some 32), none, .plain (.pick (.tmp 27) (.tmp 31) (.const (.bool false)))⟩,
     ⟨(some 33), none, .plain (.mov (.tmp 32))⟩,
     ⟨(some 34), (some (33, true)), .plain (.mov (.tmp 5))⟩,
     ⟨(some 35), (some (33, true)), .plain (.buildSlice ⟨1, 8, [(.int .i64 0)]⟩ 1 [(0, (.const (.int .i64 2)))])⟩,
     ⟨(some 36), (some (33, true)), .call 52 [(.tmp 34), (.tmp 35), (.const (.int .i64 5))]⟩,
     ⟨(some 37), (some (33, true)), .plain (.len .sl (.tmp 36))⟩,
     ⟨(some 38), (some (33, true)), .plain (.bin .eql (.tmp 37) (.const (.int .i64 0)))⟩,
     ⟨(some 39), none, .plain (.pick (.tmp 33) (.tmp 38) (.const (.bool false)))⟩,
     ⟨(some 2), none, .plain (.mov (.tmp 39))⟩])
  .ret)))))⟩
/-- fettle/fettlelaw16.made -/
def a21 : AFunc := ⟨0, [.tmp 0],
  (.both (.seq [⟨(some 0), none, .plain (.mov (.const (.bool false)))⟩])
  (.both (.seq [⟨(some 5), none, .call 39 [(.const (.int .i64 64)), (.const (.int .i64 1))]⟩,
     ⟨(some 4), none, .plain (.mov (.tmp 5))⟩,
     ⟨(some 6), none, .plain (.extract (.tmp 4) 0)⟩,
     ⟨(some 7), none, .plain (.extract (.tmp 4) 1)⟩,
     ⟨(some 1), none, .plain (.mov (.tmp 6))⟩,
     ⟨(some 2), none, .plain (.mov (.tmp 7))⟩])
  (.both (.both (.seq [⟨(some 8), none, .plain (.mov (.tmp 2))⟩,
      ⟨(some 9), none, .plain (.bin .neq (.tmp 8) (.const (.int .i64 0)))⟩,
      ⟨(some 10), none, .plain (.mov (.tmp 9))⟩,
      ⟨(some 11), (some (10, false)), .plain (.mov (.tmp 1))⟩,
      ⟨(some 12), (some (10, false)), .plain (.len .sl (.tmp 11))⟩,
      ⟨(some 13), (some (10, false)), .plain (.bin .neq (.tmp 12) (.const (.int .i64 32768)))⟩,
      ⟨(some 14), none, .plain (.pick (.tmp 10) (.const (.bool true)) (.tmp 13))⟩])
   (.cond (.tmp 14)
    (.both (.seq [⟨(some 0), none, .plain (.mov (.const (.bool false)))⟩])
    .ret)
    .skip))
  (.both (.seq [⟨(some 16), none, .plain (.mov (.tmp 1))⟩,
     ⟨(some 17), none, .plain (.iface 82 (.tmp 16))⟩,
     ⟨(some 18), none, .call 41 [(.tmp 17)]⟩,
     ⟨(some 15), none, .plain (.mov (.tmp 18))⟩,
     ⟨(some 19), none, .plain (.extract (.tmp 15) 0)⟩,
     ⟨(some 20), none, .plain (.extract (.tmp 15) 1)⟩,
     ⟨(some 3), none, .plain (.mov (.tmp 19))⟩,
     ⟨(some 2), none, .plain (.mov (.tmp 20))⟩])
  (.both (.seq [⟨(some 21), none, .plain (.mov (.tmp 2))⟩,
     ⟨(some 22), none, .plain (.bin .eql (.tmp 21) (.const (.int .i64 0)))⟩,
     ⟨(some 23), none, .plain (.mov (.tmp 22))⟩,
     ⟨(some 24), (some (23, true)), .plain (.mov (.tmp 3))⟩,
     ⟨(some 25), (some (23, true)), .plain (.eqN true .ptr true (.tmp 24) (.const (.pointer none)))⟩,
     ⟨(some 26), none, .plain (.pick (.tmp 23) (.tmp 25) (.const (.bool false)))⟩,
     ⟨(some 27), none, .plain (.mov (.tmp 26))⟩,
     ⟨(some 28), (some (27, true)), .plain (.mov (.tmp 3))⟩,
     ⟨(some 29), (some (27, true)), .plain (.nilCheck (.tmp 28))⟩,
     ⟨(some 30), (some (27, true)), .plain (.faddr 0 (.tmp 29))⟩,
     ⟨(some 31), (some (27, true)), .plain (.load (some 8) (.tmp 30))⟩,
     ⟨(some 32), (some (27, true)), .call 60 [(.tmp 31)]⟩,
     ⟨(some 33), (some (27, true)), .plain (.bin .eql (.tmp 32) (.const (.int .i64 6)))⟩,
     ⟨(some 34), none, .plain (.pick (.tmp 27) (.tmp 33) (.const (.bool false)))⟩,
     ⟨(some 35), none, .plain (.mov (.tmp 34))⟩,
     ⟨(some 36), (some (35, true)), .plain (.mov (.tmp 3))⟩,
     ⟨(some 37), (some (35, true)), .plain (.nilCheck (.tmp 36))⟩,
     ⟨(some 38), (some (35, true)), .plain (.faddr 0 (.tmp 37))⟩,
     ⟨(some 39), (some (35, true)), .plain (.load (some 8) (.tmp 38))⟩,
     ⟨(some 40), (some (35, true)), .call 44 [(.tmp 39)]⟩,
     ⟨(some 41), (some (35, true)), .plain (.bin .eql (.tmp 40) (.const (.int .i64 58)))⟩,
     ⟨(some 42), none, .plain (.pick (.tmp 35) (.tmp 41) (.const (.bool false)))⟩,
     ⟨(some 43), none, .plain (.mov (.tmp 42))⟩,
     ⟨(some 44), (some (43, true)), .plain (.mov (.tmp 3))⟩,
     ⟨(some 45), (some (43, true)), .call 42 [(.tmp 44)]⟩,
     ⟨(some 46), (some (43, true)), .plain (.len .sl (.tmp 45))⟩,
     ⟨(some 47), (some (43, true)), .plain (.bin .eql (.tmp 46) (.const (.int .i64 1)))⟩,
     ⟨(some 48), none, .plain (.pick (.tmp 43) (.tmp 47) (.const (.bool false)))⟩,
     ⟨(some 49), none, .plain (.mov (.tmp 48))⟩,
     ⟨(some 50), (some (49, true)), .plain (.mov (.tmp 3))⟩,
     ⟨(some 51), (some (49, true)), .call 42 [(.tmp 50)]⟩,
     ⟨(some 52), (some (49, true)), .plain (.iaddr none 2 (.tmp 51) (.const (.int .i64 0)))⟩,
     ⟨(some 53), (some (49, true)), .plain (.faddr 0 (.tmp 52))⟩,
     ⟨(some 54), (some (49, true)), .plain (.load none (.tmp 53))⟩,
     ⟨(some 55), (some (49, true)), .plain (.bin .eql (.tmp 54) (.const (.int .i64 3584)))⟩,
     ⟨(some 56), none, .plain (.pick (.tmp 49) (.tmp 55) (.const (.bool false)))⟩,
     ⟨(some 0), none, .plain (.mov (.tmp 56))⟩])
  .ret)))))⟩
/-- fettle/fettleref01.Part -/
def a22 : AFunc := ⟨3, [.tmp 6],
  (.both (.seq [⟨(some 6), none, .plain (.mov (.const (.slice none 0 0)))⟩])
  (.both (.seq [⟨(some 7), none, .plain (.mov (.const (.slice none 0 0)))⟩])
  (.both (.seq [⟨(some 8), none, .plain (.mov (.tmp 7))⟩,
     ⟨(some 9), none, .plain (.mov (.tmp 0))⟩,
     ⟨(some 10), none, .plain (.mov (.tmp 1))⟩,
     ⟨(some 11), none, .plain (.mov (.tmp 1))⟩,
     ⟨(some 12), none, .plain (.mov (.tmp 2))⟩,
     ⟨(some 13), none, .plain (.bin .add (.tmp 11) (.tmp 12))⟩,
     ⟨(some 14), none, .plain (.cut (.sl 1) (.tmp 9) (some (.tmp 10)) (some (.tmp 13)) none)⟩,
     ⟨(some 15), none, .plain (.append ⟨1, 1, [(.int .u8 0)]⟩ false (.tmp 8) (.tmp 14))⟩,
     ⟨(some 6), none, .plain (.mov (.tmp 15))⟩])
  .ret)))⟩
/-- (fettle/fat.Boot).Put -/
def a23 : AFunc := ⟨2, [.tmp 4],
  (.both (.seq [⟨(some 2), none, .plain (.box (.tmp 0))⟩,
     ⟨(some 4), none, .plain (.mov (.const (.int .i64 0)))⟩])
  (.both (.both (.seq [⟨(some 6), none, .plain (.mov (.tmp 1))⟩,
      ⟨(some 7), none, .plain (.len .sl (.tmp 6))⟩,
      ⟨(some 8), none, .plain (.bin .neq (.tmp 7) (.const (.int .i64 512)))⟩])
   (.cond (.tmp 8)
    (.both (.seq [⟨(some 4), none, .plain (.mov (.const (.int .i64 4)))⟩])
    .ret)
    .skip))
  (.both (.both (.seq [⟨(some 9), none, .plain (.load (some 8) (.tmp 2))⟩,
      ⟨(some 10), none, .call 61 [(.tmp 9)]⟩,
      ⟨(some 5), none, .plain (.mov (.tmp 10))⟩])
   (.both (.seq [⟨(some 11), none, .plain (.mov (.tmp 5))⟩,
      ⟨(some 12), none, .plain (.bin .neq (.tmp 11) (.const (.int .i64 0)))⟩])
   (.cond (.tmp 12)
    (.both (.seq [⟨(some 13), none, .plain (.mov (.tmp 5))⟩,
       ⟨(some 4), none, .plain (.mov (.tmp 13))⟩])
    .ret)
    .skip)))
  (.both (.seq [⟨(some 14), none, .plain (.mov (.tmp 1))⟩,
     ⟨(some 15), none, .call 62 [(.tmp 14), (.const (.int .i64 11)), (.const (.int .u16 512))]⟩])
  (.both (.draw 0 [⟨0, .pure, 0, ⟨(some 16), none, .plain (.mov (.tmp 1))⟩, [], []⟩,
     ⟨1, .pure, 0, ⟨(some 17), none, .plain (.mov (.tmp 1))⟩, [], []⟩,
     ⟨2, .pure, 0, ⟨(some 18), none, .plain (.faddr 0 (.tmp 2))⟩, [], []⟩,
     ⟨3, .read, 0, ⟨(some 19), none, .plain (.load none (.tmp 18))⟩, [], []⟩,
     ⟨4, .pure, 0, ⟨(some 20), none, .plain (.conv (.int .u8) (.tmp 19))⟩, [], []⟩,
     ⟨5, .pure, 0, ⟨(some 21), none, .plain (.faddr 2 (.tmp 2))⟩, [], []⟩,
     ⟨6, .read, 0, ⟨(some 22), none, .plain (.load none (.tmp 21))⟩, [], []⟩,
     ⟨7, .pure, 0, ⟨(some 23), none, .plain (.conv (.int .u8) (.tmp 22))⟩, [], []⟩,
     ⟨8, .pure, 0, ⟨(some 24), none, .plain (.iaddr none 1 (.tmp 16) (.const (.int .i64 13)))⟩, [], []⟩,
     ⟨9, .chain, 0, ⟨none, none, .plain (.store 1 (.tmp 24) (.tmp 20))⟩, [6], []⟩,
     ⟨10, .pure, 0, ⟨(some 25), none, .plain (.iaddr none 1 (.tmp 17) (.const (.int .i64 16)))⟩, [], []⟩,
     ⟨11, .chain, 0, ⟨none, none, .plain (.store 1 (.tmp 25) (.tmp 23))⟩, [], []⟩])
  (.both (.seq [⟨(some 26), none, .plain (.mov (.tmp 1))⟩,
     ⟨(some 27), none, .plain (.faddr 1 (.tmp 2))⟩,
     ⟨(some 28), none, .plain (.load none (.tmp 27))⟩,
     ⟨(some 29), none, .plain (.conv (.int .u16) (.tmp 28))⟩,
     ⟨(some 30), none, .call 62 [(.tmp 26), (.const (.int .i64 14)), (.tmp 29)]⟩])
  (.both (.seq [⟨(some 31), none, .plain (.mov (.tmp 1))⟩,
     ⟨(some 32), none, .call 62 [(.tmp 31), (.const (.int .i64 17)), (.const (.int .u16 0))]⟩])
  (.both (.seq [⟨(some 33), none, .plain (.mov (.tmp 1))⟩,
     ⟨(some 34), none, .call 62 [(.tmp 33), (.const (.int .i64 19)), (.const (.int .u16 0))]⟩])
  (.both (.seq [⟨(some 35), none, .plain (.mov (.tmp 1))⟩,
     ⟨(some 36), none, .call 62 [(.tmp 35), (.const (.int .i64 22)), (.const (.int .u16 0))]⟩])
  (.both (.seq [⟨(some 37), none, .plain (.mov (.tmp 1))⟩,
     ⟨(some 38), none, .plain (.faddr 3 (.tmp 2))⟩,
     ⟨(some 39), none, .plain (.load none (.tmp 38))⟩,
     ⟨(some 40), none, .plain (.conv (.int .u32) (.tmp 39))⟩,
     ⟨(some 41), none, .call 63 [(.tmp 37), (.const (.int .i64 32)), (.tmp 40)]⟩])
  (.both (.seq [⟨(some 42), none, .plain (.mov (.tmp 1))⟩,
     ⟨(some 43), none, .plain (.faddr 4 (.tmp 2))⟩,
     ⟨(some 44), none, .plain (.load none (.tmp 43))⟩,
     ⟨(some 45), none, .plain (.conv (.int .u32) (.tmp 44))⟩,
     ⟨(some 46), none, .call 63 [(.tmp 42), (.const (.int .i64 36)), (.tmp 45)]⟩])
  (.both (.seq [⟨(some 47), none, .plain (.mov (.tmp 1))⟩,
     ⟨(some 48), none, .call 63 [(.tmp 47), (.const (.int .i64 40)), (.const (.int .u32 0))]⟩])
  (.both (.seq [⟨(some 49), none, .plain (.mov (.tmp 1))⟩,
     ⟨(some 50), none, .plain (.faddr 5 (.tmp 2))⟩,
     ⟨(some 51), none, .plain (.load none (.tmp 50))⟩,
     ⟨(some 52), none, .plain (.conv (.int .u32) (.tmp 51))⟩,
     ⟨(some 53), none, .call 63 [(.tmp 49), (.const (.int .i64 44)), (.tmp 52)]⟩])
  (.both (.seq [⟨(some 54), none, .plain (.mov (.tmp 1))⟩,
     ⟨(some 55), none, .plain (.faddr 6 (.tmp 2))⟩,
     ⟨(some 56), none, .plain (.load none (.tmp 55))⟩,
     ⟨(some 57), none, .plain (.conv (.int .u16) (.tmp 56))⟩,
     ⟨(some 58), none, .call 62 [(.tmp 54), (.const (.int .i64 48)), (.tmp 57)]⟩])
  (.both (.seq [⟨(some 59), none, .plain (.mov (.tmp 1))⟩,
     ⟨(some 60), none, .plain (.faddr 7 (.tmp 2))⟩,
     ⟨(some 61), none, .plain (.load none (.tmp 60))⟩,
     ⟨(some 62), none, .plain (.conv (.int .u16) (.tmp 61))⟩,
     ⟨(some 63), none, .call 62 [(.tmp 59), (.const (.int .i64 50)), (.tmp 62)]⟩])
  (.both (.seq [⟨(some 64), none, .plain (.mov (.tmp 1))⟩,
     ⟨(some 65), none, .plain (.buildSlice ⟨1, 1, [(.int .u8 0)]⟩ 8 [(0, (.const (.int .u8 70))), (1, (.const (.int .u8 65))), (2, (.const (.int .u8 84))), (3, (.const (.int .u8 51))), (4, (.const (.int .u8 50))), (5, (.const (.int .u8 32))), (6, (.const (.int .u8 32))), (7, (.const (.int .u8 32)))])⟩,
     ⟨(some 66), none, .plain (.conv .mark (.tmp 65))⟩,
     ⟨(some 67), none, .call 64 [(.tmp 64), (.const (.int .i64 82)), (.tmp 66)]⟩])
  (.both (.seq [⟨(some 68), none, .plain (.mov (.tmp 1))⟩,
     ⟨(some 69), none, .plain (.mov (.tmp 1))⟩,
     ⟨(some 70), none, .plain (.iaddr none 1 (.tmp 68) (.const (.int .i64 510)))⟩,
     ⟨none, none, .plain (.store 1 (.tmp 70) (.const (.int .u8 85)))⟩,
     ⟨(some 71), none, .plain (.iaddr none 1 (.tmp 69) (.const (.int .i64 511)))⟩,
     ⟨none, none, .plain (.store 1 (.tmp 71) (.const (.int .u8 170)))⟩])
  (.both (.seq [⟨(some 4), none, .plain (.mov (.const (.int .i64 0)))⟩])
  .ret))))))))))))))))))⟩
/-- fettle/fettleref01.Same -/
def a24 : AFunc := ⟨2, [.tmp 4],
  (.both (.seq [⟨(some 4), none, .plain (.mov (.const (.bool false)))⟩])
  (.both (.seq [⟨(some 5), none, .plain (.mov (.tmp 0))⟩,
     ⟨(some 6), none, .plain (.conv .b2s (.tmp 5))⟩,
     ⟨(some 7), none, .plain (.mov (.tmp 1))⟩,
     ⟨(some 8), none, .plain (.conv .b2s (.tmp 7))⟩,
     ⟨(some 9), none, .plain (.bin .eql (.tmp 6) (.tmp 8))⟩,
     ⟨(some 4), none, .plain (.mov (.tmp 9))⟩])
  .ret))⟩
/-- (fettle/fettleref16.Boot).Check -/
def a26 : AFunc := ⟨1, [.tmp 2],
  (.both (.seq [⟨(some 1), none, .plain (.box (.tmp 0))⟩,
     ⟨(some 2), none, .plain (.mov (.const (.int .i64 0)))⟩])
  (.both (.seq [⟨(some 4), none, .plain (.faddr 0 (.tmp 1))⟩,
     ⟨(some 5), none, .plain (.load none (.tmp 4))⟩,
     ⟨(some 6), none, .plain (.bin .eql (.tmp 5) (.const (.int .i64 1)))⟩,
     ⟨(some 7), none, .plain (.mov (.tmp 6))⟩,
     ⟨(some 8), (some (7, false)), .plain (.faddr 0 (.tmp 1))⟩,
     ⟨(some 9), (some (7, false)), .plain (.load none (.tmp 8))⟩,
     ⟨(some 10), (some (7, false)), .plain (.bin .eql (.tmp 9) (.const (.int .i64 2)))⟩,
     ⟨(some 11), none, .plain (.pick (.tmp 7) (.const (.bool true)) (.tmp 10))⟩,
     ⟨(some 12), none, .plain (.mov (.tmp 11))⟩,
     ⟨(some 13), (some (12, false)), .plain (.faddr 0 (.tmp 1))⟩,
     ⟨(some 14), (some (12, false)), .plain (.load none (.tmp 13))⟩,
     ⟨(some 15), (some (12, false)), .plain (.bin .eql (.tmp 14) (.const (.int .i64 4)))⟩,
     ⟨(some 16), none, .plain (.pick (.tmp 12) (.const (.bool true)) (.tmp 15))⟩,
     ⟨(some 17), none, .plain (.mov (.tmp 16))⟩,
     ⟨(some 18), (some (17, false)), .plain (.faddr 0 (.tmp 1))⟩,
     ⟨(some 19), (some (17, false)), .plain (.load none (.tmp 18))⟩,
     ⟨(some 20), (some (17, false)), .plain (.bin .eql (.tmp 19) (.const (.int .i64 8)))⟩,
     ⟨(some 21), none, .plain (.pick (.tmp 17) (.const (.bool true)) (.tmp 20))⟩,
     ⟨(some 3), none, .plain (.mov (.tmp 21))⟩])
  (.both (.block 0 (.both (.seq [⟨(some 23), none, .plain (.mov (.tmp 3))⟩,
       ⟨(some 24), none, .plain (.un .not (.tmp 23))⟩,
       ⟨(some 25), none, .plain (.mov (.tmp 24))⟩,
       ⟨(some 26), (some (25, false)), .plain (.faddr 2 (.tmp 1))⟩,
       ⟨(some 27), (some (25, false)), .plain (.load none (.tmp 26))⟩,
       ⟨(some 28), (some (25, false)), .plain (.bin .lss (.tmp 27) (.const (.int .i64 1)))⟩,
       ⟨(some 29), none, .plain (.pick (.tmp 25) (.const (.bool true)) (.tmp 28))⟩,
       ⟨(some 30), none, .plain (.mov (.tmp 29))⟩,
       ⟨(some 31), (some (30, false)), .plain (.faddr 2 (.tmp 1))⟩,
       ⟨(some 32), (some (30, false)), .plain (.load none (.tmp 31))⟩,
       ⟨(some 33), (some (30, false)), .plain (.bin .gtr (.tmp 32) (.const (.int .i64 2)))⟩,
       ⟨(some 34), none, .plain (.pick (.tmp 30) (.const (.bool true)) (.tmp 33))⟩,
       ⟨(some 35), none, .plain (.mov (.tmp 34))⟩,
       ⟨(some 36), (some (35, false)), .plain (.faddr 3 (.tmp 1))⟩,
       ⟨(some 37), (some (35, false)), .plain (.load none (.tmp 36))⟩,
       ⟨(some 38), (some (35, false)), .plain (.bin .lss (.tmp 37) (.const (.int .i64 1)))⟩,
       ⟨(some 39), none, .plain (.pick (.tmp 35) (.const (.bool true)) (.tmp 38))⟩,
       ⟨(some 40), none, .plain (.mov (.tmp 39))⟩,
       ⟨(some 41), (some (40, false)), .plain (.faddr 3 (.tmp 1))⟩,
       ⟨(some 42), (some (40, false)), .plain (.load none (.tmp 41))⟩,
       ⟨(some 43), (some (40, false)), .plain (.bin .gtr (.tmp 42) (.const (.int .i64 32768)))⟩,
       ⟨(some 44), none, .plain (.pick (.tmp 40) (.const (.bool true)) (.tmp 43))⟩,
       ⟨(some 45), none, .plain (.mov (.tmp 44))⟩,
       ⟨(some 46), (some (45, false)), .plain (.faddr 4 (.tmp 1))⟩,
       ⟨(some 47), (some (45, false)), .plain (.load none (.tmp 46))⟩,
       ⟨(some 48), (some (45, false)), .plain (.bin .lss (.tmp 47) (.const (.int .i64 1)))⟩,
       ⟨(some 49), none, .plain (.pick (.tmp 45) (.const (.bool true)) (.tmp 48))⟩,
       ⟨(some 50), none, .plain (.mov (.tmp 49))⟩,
       ⟨(some 51), (some (50, false)), .plain (.faddr 4 (.tmp 1))⟩,
       ⟨(some 52), (some (50, false)), .plain (.load none (.tmp 51))⟩,
       ⟨(some 53), (some (50, false)), .plain (.faddr 3 (.tmp 1))⟩,
       ⟨(some 54), (some (50, false)), .plain (.load none (.tmp 53))⟩,
       ⟨(some 55), (some (50, false)), .plain (.bin .gtr (.tmp 52) (.tmp 54))⟩,
       ⟨(some 56), none, .plain (.pick (.tmp 50) (.const (.bool true)) (.tmp 55))⟩,
       ⟨(some 57), none, .plain (.mov (.tmp 56))⟩,
       ⟨(some 58), (some (57, false)), .plain (.faddr 1 (.tmp 1))⟩,
       ⟨(some 59), (some (57, false)), .plain (.load none (.tmp 58))⟩,
       ⟨(some 60), (some (57, false)), .plain (.bin .lss (.tmp 59) (.const (.int .i64 2)))⟩,
       ⟨(some 61), none, .plain (.pick (.tmp 57) (.const (.bool true)) (.tmp 60))⟩,
       ⟨(some 62), none, .plain (.mov (.tmp 61))⟩,
       ⟨(some 63), (some (62, false)), .plain (.faddr 1 (.tmp 1))⟩,
       ⟨(some 64), (some (62, false)), .plain (.load none (.tmp 63))⟩,
       ⟨(some 65), (some (62, false)), .plain (.bin .gtr (.tmp 64) (.const (.int .i64 64)))⟩,
       ⟨(some 66), none, .plain (.pick (.tmp 62) (.const (.bool true)) (.tmp 65))⟩,
       ⟨(some 22), none, .plain (.mov (.tmp 66))⟩])
    (.cond (.tmp 22)
     (.both (.seq [⟨(some 2), none, .plain (.mov (.const (.int .i64 11)))⟩])
     .ret)
     (.both (.seq [⟨(some 68), none, .plain (.faddr 6 (.tmp 1))⟩,
        ⟨(some 69), none, .plain (.load none (.tmp 68))⟩,
        ⟨(some 70), none, .plain (.bin .lss (.tmp 69) (.const (.int .i64 1)))⟩,
        ⟨(some 71), none, .plain (.mov (.tmp 70))⟩,
        ⟨(some 72), (some (71, false)), .plain (.faddr 6 (.tmp 1))⟩,
        ⟨(some 73), (some (71, false)), .plain (.load none (.tmp 72))⟩,
        ⟨(some 74), (some (71, false)), .plain (.faddr 1 (.tmp 1))⟩,
        ⟨(some 75), (some (71, false)), .plain (.load none (.tmp 74))⟩,
        ⟨(some 76), (some (71, false)), .plain (.bin .geq (.tmp 73) (.tmp 75))⟩,
        ⟨(some 77), none, .plain (.pick (.tmp 71) (.const (.bool true)) (.tmp 76))⟩,
        ⟨(some 78), none, .plain (.mov (.tmp 77))⟩,
        ⟨(some 79), (some (78, false)), .plain (.faddr 7 (.tmp 1))⟩,
        ⟨(some 80), (some (78, false)), .plain (.load none (.tmp 79))⟩,
        ⟨(some 81), (some (78, false)), .plain (.bin .lss (.tmp 80) (.const (.int .i64 0)))⟩,
        ⟨(some 82), none, .plain (.pick (.tmp 78) (.const (.bool true)) (.tmp 81))⟩,
        ⟨(some 83), none, .plain (.mov (.tmp 82))⟩,
        ⟨(some 84), (some (83, false)), .plain (.faddr 7 (.tmp 1))⟩,
        ⟨(some 85), (some (83, false)), .plain (.load none (.tmp 84))⟩,
        ⟨(some 86), (some (83, false)), .plain (.faddr 1 (.tmp 1))⟩,
        ⟨(some 87), (some (83, false)), .plain (.load none (.tmp 86))⟩,
        ⟨(some 88), (some (83, false)), .plain (.bin .geq (.tmp 85) (.tmp 87))⟩,
        ⟨(some 89), none, .plain (.pick (.tmp 83) (.const (.bool true)) (.tmp 88))⟩,
        ⟨(some 90), none, .plain (.mov (.tmp 89))⟩,
        ⟨(some 91), (some (90, false)), .plain (.faddr 7 (.tmp 1))⟩,
        ⟨(some 92), (some (90, false)), .plain (.load none (.tmp 91))⟩,
        ⟨(some 93), (some (90, false)), .plain (.faddr 6 (.tmp 1))⟩,
        ⟨(some 94), (some (90, false)), .plain (.load none (.tmp 93))⟩,
        ⟨(some 95), (some (90, false)), .plain (.bin .eql (.tmp 92) (.tmp 94))⟩,
        ⟨(some 96), none, .plain (.pick (.tmp 90) (.const (.bool true)) (.tmp 95))⟩,
        ⟨(some 67), none, .plain (.mov (.tmp 96))⟩])
     (.cond (.tmp 67)
      (.both (.seq [⟨(some 2), none, .plain (.mov (.const (.int .i64 11)))⟩])
      .ret)
      (.both (.draw 0 [⟨0, .read, 0, ⟨(some 98), none, .plain (.load (some 8) (.tmp 1))⟩, [], []⟩,
         ⟨2, .pure, 0, ⟨(some 100), none, .plain (.faddr 3 (.tmp 1))⟩, [], []⟩,
         ⟨3, .read, 0, ⟨(some 101), none, .plain (.load none (.tmp 100))⟩, [], []⟩,
         ⟨1, .chain, 0, ⟨(some 99), none, .call 65 [(.tmp 98)]⟩, [3], []⟩,
         ⟨4, .pure, 0, ⟨(some 102), none, .plain (.bin .geq (.tmp 99) (.tmp 101))⟩, [], []⟩,
         ⟨5, .pure, 0, ⟨(some 103), none, .plain (.mov (.tmp 102))⟩, [], []⟩,
         ⟨6, .read, 0, ⟨(some 104), (some (103, false)), .plain (.load (some 8) (.tmp 1))⟩, [], []⟩,
         ⟨7, .chain, 0, ⟨(some 105), (some (103, false)), .call 66 [(.tmp 104)]⟩, [], []⟩,
         ⟨8, .pure, 0, ⟨(some 106), (some (103, false)), .plain (.bin .lss (.tmp 105) (.const (.int .i64 1)))⟩, [], []⟩,
         ⟨9, .pure, 0, ⟨(some 107), none, .plain (.pick (.tmp 103) (.const (.bool true)) (.tmp 106))⟩, [], []⟩,
         ⟨10, .pure, 0, ⟨(some 97), none, .plain (.mov (.tmp 107))⟩, [], []⟩])
      (.cond (.tmp 97)
       (.both (.seq [⟨(some 2), none, .plain (.mov (.const (.int .i64 4)))⟩])
       .ret)
       (.both (.draw 0 [⟨0, .read, 0, ⟨(some 109), none, .plain (.load (some 8) (.tmp 1))⟩, [], []⟩,
          ⟨2, .pure, 0, ⟨(some 111), none, .plain (.faddr 4 (.tmp 1))⟩, [], []⟩,
          ⟨3, .read, 0, ⟨(some 112), none, .plain (.load none (.tmp 111))⟩, [], []⟩,
          ⟨4, .pure, 0, ⟨(some 113), none, .plain (.bin .mul (.const (.int .i64 128)) (.tmp 112))⟩, [], []⟩,
          ⟨5, .pure, 0, ⟨(some 114), none, .plain (.bin .sub (.tmp 113) (.const (.int .i64 2)))⟩, [], []⟩,
          ⟨1, .chain, 0, ⟨(some 110), none, .call 66 [(.tmp 109)]⟩, [3], []⟩,
          ⟨6, .pure, 0, ⟨(some 115), none, .plain (.bin .gtr (.tmp 110) (.tmp 114))⟩, [], []⟩,
          ⟨7, .pure, 0, ⟨(some 108), none, .plain (.mov (.tmp 115))⟩, [], []⟩])
       (.cond (.tmp 108)
        (.both (.seq [⟨(some 2), none, .plain (.mov (.const (.int .i64 20)))⟩])
        .ret)
        (.both (.draw 0 [⟨0, .pure, 0, ⟨(some 117), none, .plain (.faddr 5 (.tmp 1))⟩, [], []⟩,
           ⟨1, .read, 0, ⟨(some 118), none, .plain (.load none (.tmp 117))⟩, [], []⟩,
           ⟨2, .pure, 0, ⟨(some 119), none, .plain (.bin .lss (.tmp 118) (.const (.int .i64 2)))⟩, [], []⟩,
           ⟨3, .pure, 0, ⟨(some 120), none, .plain (.mov (.tmp 119))⟩, [], []⟩,
           ⟨4, .pure, 0, ⟨(some 121), (some (120, false)), .plain (.faddr 5 (.tmp 1))⟩, [], []⟩,
           ⟨5, .read, 0, ⟨(some 122), (some (120, false)), .plain (.load none (.tmp 121))⟩, [], []⟩,
           ⟨6, .read, 0, ⟨(some 123), (some (120, false)), .plain (.load (some 8) (.tmp 1))⟩, [], []⟩,
           ⟨7, .chain, 0, ⟨(some 124), (some (120, false)), .call 66 [(.tmp 123)]⟩, [5], []⟩,
           ⟨8, .pure, 0, ⟨(some 125), (some (120, false)), .plain (.bin .add (.tmp 124) (.const (.int .i64 1)))⟩, [], []⟩,
           ⟨9, .pure, 0, ⟨(some 126), (some (120, false)), .plain (.bin .gtr (.tmp 122) (.tmp 125))⟩, [], []⟩,
           ⟨10, .pure, 0, ⟨(some 127), none, .plain (.pick (.tmp 120) (.const (.bool true)) (.tmp 126))⟩, [], []⟩,
           ⟨11, .pure, 0, ⟨(some 116), none, .plain (.mov (.tmp 127))⟩, [], []⟩])
        (.cond (.tmp 116)
         (.both (.seq [⟨(some 2), none, .plain (.mov (.const (.int .i64 4)))⟩])
         .ret)
         .skip)))))))))))
  (.both (.seq [⟨(some 2), none, .plain (.mov (.const (.int .i64 0)))⟩])
  .ret))))⟩
/-- fettle/fat.Parse -/
def a27 : AFunc := ⟨1, [.cell 2 (some 8), .tmp 3],
  (.both (.seq [⟨(some 2), none, .plain (.alloc [(.int .i64 0), (.int .i64 0), (.int .i64 0), (.int .i64 0), (.int .i64 0), (.int .i64 0), (.int .i64 0), (.int .i64 0)])⟩,
     ⟨(some 3), none, .plain (.mov (.const (.int .i64 0)))⟩])
  (.both (.both (.seq [⟨(some 28), none, .plain (.mov (.tmp 0))⟩,
      ⟨(some 29), none, .plain (.len .sl (.tmp 28))⟩,
      ⟨(some 30), none, .plain (.bin .neq (.tmp 29) (.const (.int .i64 512)))⟩])
   (.cond (.tmp 30)
    (.both (.seq [⟨(some 31), none, .plain (.build (.str [(.int .i64 0), (.int .i64 0), (.int .i64 0), (.int .i64 0), (.int .i64 0), (.int .i64 0), (.int .i64 0), (.int .i64 0)] [(0, 1), (1, 1), (2, 1), (3, 1), (4, 1), (5, 1), (6, 1), (7, 1)]) [])⟩,
       ⟨none, none, .plain (.store 8 (.tmp 2) (.tmp 31))⟩,
       ⟨(some 3), none, .plain (.mov (.const (.int .i64 4)))⟩])
    .ret)
    .skip))
  (.both (.both (.seq [⟨(some 32), none, .plain (.mov (.tmp 0))⟩,
      ⟨(some 33), none, .plain (.iaddr none 1 (.tmp 32) (.const (.int .i64 510)))⟩,
      ⟨(some 34), none, .plain (.load none (.tmp 33))⟩,
      ⟨(some 35), none, .plain (.bin .neq (.tmp 34) (.const (.int .u8 85)))⟩,
      ⟨(some 36), none, .plain (.mov (.tmp 35))⟩,
      ⟨(some 37), (some (36, false)), .plain (.mov (.tmp 0))⟩,
      ⟨(some 38), (some (36, false)), .plain (.iaddr none 1 (.tmp 37) (.const (.int .i64 511)))⟩,
      ⟨(some 39), (some (36, false)), .plain (.load none (.tmp 38))⟩,
      ⟨(some 40), (some (36, false)), .plain (.bin .neq (.tmp 39) (.const (.int .u8 170)))⟩,
      ⟨(some 41), none, .plain (.pick (.tmp 36) (.const (.bool true)) (.tmp 40))⟩,
      ⟨(some 42), none, .plain (.mov (.tmp 41))⟩,
      ⟨(some 43), (some (42, false)), .plain (.mov (.tmp 0))⟩,
      ⟨(some 44), (some (42, false)), .plain (.cut (.sl 1) (.tmp 43) (some (.const (.int .i64 82))) (some (.const (.int .i64 90))) none)⟩,
      ⟨(some 45), (some (42, false)), .plain (.conv .b2s (.tmp 44))⟩,
      ⟨(some 46), (some (42, false)), .plain (.bin .neq (.tmp 45) (.const (.string ⟨#[70, 65, 84, 51, 50, 32, 32, 32]⟩)))⟩,
      ⟨(some 47), none, .plain (.pick (.tmp 42) (.const (.bool true)) (.tmp 46))⟩])
   (.cond (.tmp 47)
    (.both (.seq [⟨(some 48), none, .plain (.build (.str [(.int .i64 0), (.int .i64 0), (.int .i64 0), (.int .i64 0), (.int .i64 0), (.int .i64 0), (.int .i64 0), (.int .i64 0)] [(0, 1), (1, 1), (2, 1), (3, 1), (4, 1), (5, 1), (6, 1), (7, 1)]) [])⟩,
       ⟨none, none, .plain (.store 8 (.tmp 2) (.tmp 48))⟩,
       ⟨(some 3), none, .plain (.mov (.const (.int .i64 10)))⟩])
    .ret)
    .skip))
  (.both (.seq [⟨(some 50), none, .plain (.mov (.tmp 0))⟩,
     ⟨(some 51), none, .call 67 [(.tmp 50), (.const (.int .i64 11))]⟩,
     ⟨(some 49), none, .plain (.mov (.tmp 51))⟩,
     ⟨(some 52), none, .plain (.extract (.tmp 49) 0)⟩,
     ⟨(some 53), none, .plain (.extract (.tmp 49) 1)⟩,
     ⟨(some 4), none, .plain (.mov (.tmp 52))⟩,
     ⟨(some 5), none, .plain (.mov (.tmp 53))⟩])
  (.both (.seq [⟨(some 55), none, .plain (.mov (.tmp 0))⟩,
     ⟨(some 56), none, .call 67 [(.tmp 55), (.const (.int .i64 14))]⟩,
     ⟨(some 54), none, .plain (.mov (.tmp 56))⟩,
     ⟨(some 57), none, .plain (.extract (.tmp 54) 0)⟩,
     ⟨(some 58), none, .plain (.extract (.tmp 54) 1)⟩,
     ⟨(some 6), none, .plain (.mov (.tmp 57))⟩,
     ⟨(some 7), none, .plain (.mov (.tmp 58))⟩])
  (.both (.seq [⟨(some 60), none, .plain (.mov (.tmp 0))⟩,
     ⟨(some 61), none, .call 67 [(.tmp 60), (.const (.int .i64 17))]⟩,
     ⟨(some 59), none, .plain (.mov (.tmp 61))⟩,
     ⟨(some 62), none, .plain (.extract (.tmp 59) 0)⟩,
     ⟨(some 63), none, .plain (.extract (.tmp 59) 1)⟩,
     ⟨(some 8), none, .plain (.mov (.tmp 62))⟩,
     ⟨(some 9), none, .plain (.mov (.tmp 63))⟩])
  (.both (.seq [⟨(some 65), none, .plain (.mov (.tmp 0))⟩,
     ⟨(some 66), none, .call 67 [(.tmp 65), (.const (.int .i64 19))]⟩,
     ⟨(some 64), none, .plain (.mov (.tmp 66))⟩,
     ⟨(some 67), none, .plain (.extract (.tmp 64) 0)⟩,
     ⟨(some 68), none, .plain (.extract (.tmp 64) 1)⟩,
     ⟨(some 10), none, .plain (.mov (.tmp 67))⟩,
     ⟨(some 11), none, .plain (.mov (.tmp 68))⟩])
  (.both (.seq [⟨(some 70), none, .plain (.mov (.tmp 0))⟩,
     ⟨(some 71), none, .call 67 [(.tmp 70), (.const (.int .i64 22))]⟩,
     ⟨(some 69), none, .plain (.mov (.tmp 71))⟩,
     ⟨(some 72), none, .plain (.extract (.tmp 69) 0)⟩,
     ⟨(some 73), none, .plain (.extract (.tmp 69) 1)⟩,
     ⟨(some 12), none, .plain (.mov (.tmp 72))⟩,
     ⟨(some 13), none, .plain (.mov (.tmp 73))⟩])
  (.both (.seq [⟨(some 75), none, .plain (.mov (.tmp 0))⟩,
     ⟨(some 76), none, .call 68 [(.tmp 75), (.const (.int .i64 32))]⟩,
     ⟨(some 74), none, .plain (.mov (.tmp 76))⟩,
     ⟨(some 77), none, .plain (.extract (.tmp 74) 0)⟩,
     ⟨(some 78), none, .plain (.extract (.tmp 74) 1)⟩,
     ⟨(some 14), none, .plain (.mov (.tmp 77))⟩,
     ⟨(some 15), none, .plain (.mov (.tmp 78))⟩])
  (.both (.seq [⟨(some 80), none, .plain (.mov (.tmp 0))⟩,
     ⟨(some 81), none, .call 68 [(.tmp 80), (.const (.int .i64 36))]⟩,
     ⟨(some 79), none, .plain (.mov (.tmp 81))⟩,
     ⟨(some 82), none, .plain (.extract (.tmp 79) 0)⟩,
     ⟨(some 83), none, .plain (.extract (.tmp 79) 1)⟩,
     ⟨(some 16), none, .plain (.mov (.tmp 82))⟩,
     ⟨(some 17), none, .plain (.mov (.tmp 83))⟩])
  (.both (.seq [⟨(some 85), none, .plain (.mov (.tmp 0))⟩,
     ⟨(some 86), none, .call 68 [(.tmp 85), (.const (.int .i64 40))]⟩,
     ⟨(some 84), none, .plain (.mov (.tmp 86))⟩,
     ⟨(some 87), none, .plain (.extract (.tmp 84) 0)⟩,
     ⟨(some 88), none, .plain (.extract (.tmp 84) 1)⟩,
     ⟨(some 18), none, .plain (.mov (.tmp 87))⟩,
     ⟨(some 19), none, .plain (.mov (.tmp 88))⟩])
  (.both (.seq [⟨(some 90), none, .plain (.mov (.tmp 0))⟩,
     ⟨(some 91), none, .call 68 [(.tmp 90), (.const (.int .i64 44))]⟩,
     ⟨(some 89), none, .plain (.mov (.tmp 91))⟩,
     ⟨(some 92), none, .plain (.extract (.tmp 89) 0)⟩,
     ⟨(some 93), none, .plain (.extract (.tmp 89) 1)⟩,
     ⟨(some 20), none, .plain (.mov (.tmp 92))⟩,
     ⟨(some 21), none, .plain (.mov (.tmp 93))⟩])
  (.both (.seq [⟨(some 95), none, .plain (.mov (.tmp 0))⟩,
     ⟨(some 96), none, .call 67 [(.tmp 95), (.const (.int .i64 48))]⟩,
     ⟨(some 94), none, .plain (.mov (.tmp 96))⟩,
     ⟨(some 97), none, .plain (.extract (.tmp 94) 0)⟩,
     ⟨(some 98), none, .plain (.extract (.tmp 94) 1)⟩,
     ⟨(some 22), none, .plain (.mov (.tmp 97))⟩,
     ⟨(some 23), none, .plain (.mov (.tmp 98))⟩])
  (.both (.seq [⟨(some 100), none, .plain (.mov (.tmp 0))⟩,
     ⟨(some 101), none, .call 67 [(.tmp 100), (.const (.int .i64 50))]⟩,
     ⟨(some 99), none, .plain (.mov (.tmp 101))⟩,
     ⟨(some 102), none, .plain (.extract (.tmp 99) 0)⟩,
     ⟨(some 103), none, .plain (.extract (.tmp 99) 1)⟩,
     ⟨(some 24), none, .plain (.mov (.tmp 102))⟩,
     ⟨(some 25), none, .plain (.mov (.tmp 103))⟩])
  (.both (.both (.seq [⟨(some 104), none, .plain (.mov (.tmp 4))⟩,
      ⟨(some 105), none, .plain (.bin .neq (.tmp 104) (.const (.int .u16 512)))⟩,
      ⟨(some 106), none, .plain (.mov (.tmp 105))⟩,
      ⟨(some 107), (some (106, false)), .plain (.mov (.tmp 8))⟩,
      ⟨(some 108), (some (106, false)), .plain (.bin .neq (.tmp 107) (.const (.int .u16 0)))⟩,
      ⟨(some 109), none, .plain (.pick (.tmp 106) (.const (.bool true)) (.tmp 108))⟩,
      ⟨(some 110), none, .plain (.mov (.tmp 109))⟩,
      ⟨(some 111), (some (110, false)), .plain (.mov (.tmp 10))⟩,
      ⟨(some 112), (some (110, false)), .plain (.bin .neq (.tmp 111) (.const (.int .u16 0)))⟩,
      ⟨(some 113), none, .plain (.pick (.tmp 110) (.const (.bool true)) (.tmp 112))⟩,
      ⟨(some 114), none, .plain (.mov (.tmp 113))⟩,
      ⟨(some 115), (some (114, false)), .plain (.mov (.tmp 12))⟩,
      ⟨(some 116), (some (114, false)), .plain (.bin .neq (.tmp 115) (.const (.int .u16 0)))⟩,
      ⟨(some 117), none, .plain (.pick (.tmp 114) (.const (.bool true)) (.tmp 116))⟩,
      ⟨(some 118), none, .plain (.mov (.tmp 117))⟩,
      ⟨(some 119), (some (118, false)), .plain (.mov (.tmp 18))⟩,
      ⟨(some 120), (some (118, false)), .plain (.bin .neq (.tmp 119) (.const (.int .u32 0)))⟩,
      ⟨(some 121), none, .plain (.pick (.tmp 118) (.const (.bool true)) (.tmp 120))⟩])
   (.cond (.tmp 121)
    (.both (.seq [⟨(some 122), none, .plain (.build (.str [(.int .i64 0), (.int .i64 0), (.int .i64 0), (.int .i64 0), (.int .i64 0), (.int .i64 0), (.int .i64 0), (.int .i64 0)] [(0, 1), (1, 1), (2, 1), (3, 1), (4, 1), (5, 1), (6, 1), (7, 1)]) [])⟩,
       ⟨none, none, .plain (.store 8 (.tmp 2) (.tmp 122))⟩,
       ⟨(some 3), none, .plain (.mov (.const (.int .i64 11)))⟩])
    .ret)
    .skip))
  (.both (.draw 1 [⟨0, .pure, 0, ⟨(some 123), none, .plain (.mov (.tmp 0))⟩, [], []⟩,
     ⟨1, .pure, 0, ⟨(some 124), none, .plain (.iaddr none 1 (.tmp 123) (.const (.int .i64 13)))⟩, [], []⟩,
     ⟨2, .read, 0, ⟨(some 125), none, .plain (.load none (.tmp 124))⟩, [], []⟩,
     ⟨3, .pure, 0, ⟨(some 126), none, .plain (.conv (.int .i64) (.tmp 125))⟩, [], []⟩,
     ⟨4, .pure, 0, ⟨(some 127), none, .plain (.mov (.tmp 6))⟩, [], []⟩,
     ⟨5, .pure, 0, ⟨(some 128), none, .plain (.conv (.int .i64) (.tmp 127))⟩, [], []⟩,
     ⟨6, .pure, 0, ⟨(some 129), none, .plain (.mov (.tmp 0))⟩, [], []⟩,
     ⟨7, .pure, 0, ⟨(some 130), none, .plain (.iaddr none 1 (.tmp 129) (.const (.int .i64 16)))⟩, [], []⟩,
     ⟨8, .read, 0, ⟨(some 131), none, .plain (.load none (.tmp 130))⟩, [], []⟩,
     ⟨9, .pure, 0, ⟨(some 132), none, .plain (.conv (.int .i64) (.tmp 131))⟩, [], []⟩,
     ⟨10, .pure, 0, ⟨(some 133), none, .plain (.mov (.tmp 14))⟩, [], []⟩,
     ⟨11, .pure, 0, ⟨(some 134), none, .plain (.conv (.int .i64) (.tmp 133))⟩, [], []⟩,
     ⟨12, .pure, 0, ⟨(some 135), none, .plain (.mov (.tmp 16))⟩, [], []⟩,
     ⟨13, .pure, 0, ⟨(some 136), none, .plain (.conv (.int .i64) (.tmp 135))⟩, [], []⟩,
     ⟨14, .pure, 0, ⟨(some 137), none, .plain (.mov (.tmp 20))⟩, [], []⟩,
     ⟨15, .pure, 0, ⟨(some 138), none, .plain (.conv (.int .i64) (.tmp 137))⟩, [], []⟩,
     ⟨16, .pure, 0, ⟨(some 139), none, .plain (.mov (.tmp 22))⟩, [], []⟩,
     ⟨17, .pure, 0, ⟨(some 140), none, .plain (.conv (.int .i64) (.tmp 139))⟩, [], []⟩,
     ⟨18, .pure, 0, ⟨(some 141), none, .plain (.mov (.tmp 24))⟩, [], []⟩,
     ⟨19, .pure, 0, ⟨(some 142), none, .plain (.conv (.int .i64) (.tmp 141))⟩, [], []⟩,
     ⟨20, .pure, 0, ⟨(some 143), none, .plain (.build (.str [(.int .i64 0), (.int .i64 0), (.int .i64 0), (.int .i64 0), (.int .i64 0), (.int .i64 0), (.int .i64 0), (.int .i64 0)] [(0, 1), (1, 1), (2, 1), (3, 1), (4, 1), (5, 1), (6, 1), (7, 1)]) [(0, (.tmp 126)), (1, (.tmp 128)), (2, (.tmp 132)), (3, (.tmp 134)), (4, (.tmp 136)), (5, (.tmp 138)), (6, (.tmp 140)), (7, (.tmp 142))])⟩, [], []⟩,
     ⟨21, .fresh, 0, ⟨(some 26), none, .plain (.alloc [(.int .i64 0), (.int .i64 0), (.int .i64 0), (.int .i64 0), (.int .i64 0), (.int .i64 0), (.int .i64 0), (.int .i64 0)])⟩, [], []⟩,
     ⟨22, .chain, 0, ⟨none, none, .plain (.store 8 (.tmp 26) (.tmp 143))⟩, [], []⟩])
  (.both (.both (.seq [⟨(some 144), none, .plain (.load (some 8) (.tmp 26))⟩,
      ⟨(some 145), none, .call 61 [(.tmp 144)]⟩,
      ⟨(some 27), none, .plain (.mov (.tmp 145))⟩])
   (.both (.seq [⟨(some 146), none, .plain (.mov (.tmp 27))⟩,
      ⟨(some 147), none, .plain (.bin .neq (.tmp 146) (.const (.int .i64 0)))⟩])
   (.cond (.tmp 147)
    (.both (.seq [⟨(some 148), none, .plain (.build (.str [(.int .i64 0), (.int .i64 0), (.int .i64 0), (.int .i64 0), (.int .i64 0), (.int .i64 0), (.int .i64 0), (.int .i64 0)] [(0, 1), (1, 1), (2, 1), (3, 1), (4, 1), (5, 1), (6, 1), (7, 1)]) [])⟩,
       ⟨(some 149), none, .plain (.mov (.tmp 27))⟩,
       ⟨none, none, .plain (.store 8 (.tmp 2) (.tmp 148))⟩,
       ⟨(some 3), none, .plain (.mov (.tmp 149))⟩])
    .ret)
    .skip)))
  (.both (.seq [⟨(some 150), none, .plain (.load (some 8) (.tmp 26))⟩,
     ⟨none, none, .plain (.store 8 (.tmp 2) (.tmp 150))⟩,
     ⟨(some 3), none, .plain (.mov (.const (.int .i64 0)))⟩])
  .ret))))))))))))))))))⟩
/-- (fettle/fettleref16.Boot).Put -/
def a28 : AFunc := ⟨2, [.tmp 4],
  (.both (.seq [⟨(some 2), none, .plain (.box (.tmp 0))⟩,
     ⟨(some 4), none, .plain (.mov (.const (.slice none 0 0)))⟩])
  (.both (.seq [⟨(some 5), none, .plain (.mov (.tmp 1))⟩,
     ⟨(some 6), none, .call 46 [(.const (.int .u64 512)), (.const (.int .i64 2))]⟩,
     ⟨(some 7), none, .call 36 [(.tmp 5), (.const (.int .i64 11)), (.tmp 6)]⟩,
     ⟨(some 1), none, .plain (.mov (.tmp 7))⟩])
  (.both (.seq [⟨(some 8), none, .plain (.mov (.tmp 1))⟩,
     ⟨(some 9), none, .plain (.faddr 0 (.tmp 2))⟩,
     ⟨(some 10), none, .plain (.load none (.tmp 9))⟩,
     ⟨(some 11), none, .plain (.conv (.int .u64) (.tmp 10))⟩,
     ⟨(some 12), none, .call 46 [(.tmp 11), (.const (.int .i64 1))]⟩,
     ⟨(some 13), none, .call 36 [(.tmp 8), (.const (.int .i64 13)), (.tmp 12)]⟩,
     ⟨(some 1), none, .plain (.mov (.tmp 13))⟩])
  (.both (.seq [⟨(some 14), none, .plain (.mov (.tmp 1))⟩,
     ⟨(some 15), none, .plain (.faddr 1 (.tmp 2))⟩,
     ⟨(some 16), none, .plain (.load none (.tmp 15))⟩,
     ⟨(some 17), none, .plain (.conv (.int .u64) (.tmp 16))⟩,
     ⟨(some 18), none, .call 46 [(.tmp 17), (.const (.int .i64 2))]⟩,
     ⟨(some 19), none, .call 36 [(.tmp 14), (.const (.int .i64 14)), (.tmp 18)]⟩,
     ⟨(some 1), none, .plain (.mov (.tmp 19))⟩])
  (.both (.seq [⟨(some 20), none, .plain (.mov (.tmp 1))⟩,
     ⟨(some 21), none, .plain (.faddr 2 (.tmp 2))⟩,
     ⟨(some 22), none, .plain (.load none (.tmp 21))⟩,
     ⟨(some 23), none, .plain (.conv (.int .u64) (.tmp 22))⟩,
     ⟨(some 24), none, .call 46 [(.tmp 23), (.const (.int .i64 1))]⟩,
     ⟨(some 25), none, .call 36 [(.tmp 20), (.const (.int .i64 16)), (.tmp 24)]⟩,
     ⟨(some 1), none, .plain (.mov (.tmp 25))⟩])
  (.both (.seq [⟨(some 26), none, .plain (.mov (.tmp 1))⟩,
     ⟨(some 27), none, .call 34 [(.const (.int .i64 4))]⟩,
     ⟨(some 28), none, .call 36 [(.tmp 26), (.const (.int .i64 17)), (.tmp 27)]⟩,
     ⟨(some 1), none, .plain (.mov (.tmp 28))⟩])
  (.both (.seq [⟨(some 29), none, .plain (.mov (.tmp 1))⟩,
     ⟨(some 30), none, .call 34 [(.const (.int .i64 2))]⟩,
     ⟨(some 31), none, .call 36 [(.tmp 29), (.const (.int .i64 22)), (.tmp 30)]⟩,
     ⟨(some 1), none, .plain (.mov (.tmp 31))⟩])
  (.both (.seq [⟨(some 32), none, .plain (.mov (.tmp 1))⟩,
     ⟨(some 33), none, .plain (.faddr 3 (.tmp 2))⟩,
     ⟨(some 34), none, .plain (.load none (.tmp 33))⟩,
     ⟨(some 35), none, .plain (.conv (.int .u64) (.tmp 34))⟩,
     ⟨(some 36), none, .call 46 [(.tmp 35), (.const (.int .i64 4))]⟩,
     ⟨(some 37), none, .call 36 [(.tmp 32), (.const (.int .i64 32)), (.tmp 36)]⟩,
     ⟨(some 1), none, .plain (.mov (.tmp 37))⟩])
  (.both (.seq [⟨(some 38), none, .plain (.mov (.tmp 1))⟩,
     ⟨(some 39), none, .plain (.faddr 4 (.tmp 2))⟩,
     ⟨(some 40), none, .plain (.load none (.tmp 39))⟩,
     ⟨(some 41), none, .plain (.conv (.int .u64) (.tmp 40))⟩,
     ⟨(some 42), none, .call 46 [(.tmp 41), (.const (.int .i64 4))]⟩,
     ⟨(some 43), none, .call 36 [(.tmp 38), (.const (.int .i64 36)), (.tmp 42)]⟩,
     ⟨(some 1), none, .plain (.mov (.tmp 43))⟩])
  (.both (.seq [⟨(some 44), none, .plain (.mov (.tmp 1))⟩,
     ⟨(some 45), none, .call 34 [(.const (.int .i64 4))]⟩,
     ⟨(some 46), none, .call 36 [(.tmp 44), (.const (.int .i64 40)), (.tmp 45)]⟩,
     ⟨(some 1), none, .plain (.mov (.tmp 46))⟩])
  (.both (.seq [⟨(some 47), none, .plain (.mov (.tmp 1))⟩,
     ⟨(some 48), none, .plain (.faddr 5 (.tmp 2))⟩,
     ⟨(some 49), none, .plain (.load none (.tmp 48))⟩,
     ⟨(some 50), none, .plain (.conv (.int .u64) (.tmp 49))⟩,
     ⟨(some 51), none, .call 46 [(.tmp 50), (.const (.int .i64 4))]⟩,
     ⟨(some 52), none, .call 36 [(.tmp 47), (.const (.int .i64 44)), (.tmp 51)]⟩,
     ⟨(some 1), none, .plain (.mov (.tmp 52))⟩])
  (.both (.seq [⟨(some 53), none, .plain (.mov (.tmp 1))⟩,
     ⟨(some 54), none, .plain (.faddr 6 (.tmp 2))⟩,
     ⟨(some 55), none, .plain (.load none (.tmp 54))⟩,
     ⟨(some 56), none, .plain (.conv (.int .u64) (.tmp 55))⟩,
     ⟨(some 57), none, .call 46 [(.tmp 56), (.const (.int .i64 2))]⟩,
     ⟨(some 58), none, .call 36 [(.tmp 53), (.const (.int .i64 48)), (.tmp 57)]⟩,
     ⟨(some 1), none, .plain (.mov (.tmp 58))⟩])
  (.both (.seq [⟨(some 59), none, .plain (.mov (.tmp 1))⟩,
     ⟨(some 60), none, .plain (.faddr 7 (.tmp 2))⟩,
     ⟨(some 61), none, .plain (.load none (.tmp 60))⟩,
     ⟨(some 62), none, .plain (.conv (.int .u64) (.tmp 61))⟩,
     ⟨(some 63), none, .call 46 [(.tmp 62), (.const (.int .i64 2))]⟩,
     ⟨(some 64), none, .call 36 [(.tmp 59), (.const (.int .i64 50)), (.tmp 63)]⟩,
     ⟨(some 1), none, .plain (.mov (.tmp 64))⟩])
  (.both (.seq [⟨(some 65), none, .plain (.mov (.tmp 1))⟩,
     ⟨(some 66), none, .plain (.buildSlice ⟨1, 1, [(.int .u8 0)]⟩ 8 [(0, (.const (.int .u8 70))), (1, (.const (.int .u8 65))), (2, (.const (.int .u8 84))), (3, (.const (.int .u8 51))), (4, (.const (.int .u8 50))), (5, (.const (.int .u8 32))), (6, (.const (.int .u8 32))), (7, (.const (.int .u8 32)))])⟩,
     ⟨(some 67), none, .plain (.conv .mark (.tmp 66))⟩,
     ⟨(some 68), none, .call 36 [(.tmp 65), (.const (.int .i64 82)), (.tmp 67)]⟩,
     ⟨(some 1), none, .plain (.mov (.tmp 68))⟩])
  (.both (.seq [⟨(some 69), none, .plain (.mov (.tmp 1))⟩,
     ⟨(some 70), none, .plain (.buildSlice ⟨1, 1, [(.int .u8 0)]⟩ 2 [(0, (.const (.int .u8 85))), (1, (.const (.int .u8 170)))])⟩,
     ⟨(some 71), none, .call 36 [(.tmp 69), (.const (.int .i64 510)), (.tmp 70)]⟩,
     ⟨(some 4), none, .plain (.mov (.tmp 71))⟩])
  .ret)))))))))))))))⟩
/-- fettle/fat.PutCounts -/
def a29 : AFunc := ⟨1, [.tmp 2, .tmp 3],
  (.both (.seq [⟨(some 1), none, .plain (.box (.tmp 0))⟩,
     ⟨(some 2), none, .plain (.mov (.const (.slice none 0 0)))⟩,
     ⟨(some 3), none, .plain (.mov (.const (.int .i64 0)))⟩])
  (.both (.both (.seq [⟨(some 5), none, .plain (.faddr 0 (.tmp 1))⟩,
      ⟨(some 6), none, .plain (.load none (.tmp 5))⟩,
      ⟨(some 7), none, .plain (.bin .lss (.tmp 6) (.const (.int .i64 0)))⟩,
      ⟨(some 8), none, .plain (.mov (.tmp 7))⟩,
      ⟨(some 9), (some (8, false)), .plain (.faddr 0 (.tmp 1))⟩,
      ⟨(some 10), (some (8, false)), .plain (.load none (.tmp 9))⟩,
      ⟨(some 11), (some (8, false)), .plain (.bin .gtr (.tmp 10) (.const (.int .i64 4294967295)))⟩,
      ⟨(some 12), none, .plain (.pick (.tmp 8) (.const (.bool true)) (.tmp 11))⟩,
      ⟨(some 13), none, .plain (.mov (.tmp 12))⟩,
      ⟨(some 14), (some (13, false)), .plain (.faddr 1 (.tmp 1))⟩,
      ⟨(some 15), (some (13, false)), .plain (.load none (.tmp 14))⟩,
      ⟨(some 16), (some (13, false)), .plain (.bin .lss (.tmp 15) (.const (.int .i64 0)))⟩,
      ⟨(some 17), none, .plain (.pick (.tmp 13) (.const (.bool true)) (.tmp 16))⟩,
      ⟨(some 18), none, .plain (.mov (.tmp 17))⟩,
      ⟨(some 19), (some (18, false)), .plain (.faddr 1 (.tmp 1))⟩,
      ⟨(some 20), (some (18, false)), .plain (.load none (.tmp 19))⟩,
      ⟨(some 21), (some (18, false)), .plain (.bin .gtr (.tmp 20) (.const (.int .i64 4294967295)))⟩,
      ⟨(some 22), none, .plain (.pick (.tmp 18) (.const (.bool true)) (.tmp 21))⟩])
   (.cond (.tmp 22)
    (.both (.seq [⟨(some 2), none, .plain (.mov (.const (.slice none 0 0)))⟩,
       ⟨(some 3), none, .plain (.mov (.const (.int .i64 4)))⟩])
    .ret)
    .skip))
  (.both (.seq [⟨(some 23), none, .plain (.makeSlice ⟨1, 1, [(.int .u8 0)]⟩ (.const (.int .i64 512)) (.const (.int .i64 512)))⟩,
     ⟨(some 4), none, .plain (.mov (.tmp 23))⟩])
  (.both (.seq [⟨(some 24), none, .plain (.mov (.tmp 4))⟩,
     ⟨(some 25), none, .call 63 [(.tmp 24), (.const (.int .i64 0)), (.const (.int .u32 1096897106))]⟩])
  (.both (.seq [⟨(some 26), none, .plain (.mov (.tmp 4))⟩,
     ⟨(some 27), none, .call 63 [(.tmp 26), (.const (.int .i64 484)), (.const (.int .u32 1631679090))]⟩])
  (.both (.seq [⟨(some 28), none, .plain (.mov (.tmp 4))⟩,
     ⟨(some 29), none, .plain (.faddr 0 (.tmp 1))⟩,
     ⟨(some 30), none, .plain (.load none (.tmp 29))⟩,
     ⟨(some 31), none, .plain (.conv (.int .u32) (.tmp 30))⟩,
     ⟨(some 32), none, .call 63 [(.tmp 28), (.const (.int .i64 488)), (.tmp 31)]⟩])
  (.both (.seq [⟨(some 33), none, .plain (.mov (.tmp 4))⟩,
     ⟨(some 34), none, .plain (.faddr 1 (.tmp 1))⟩,
     ⟨(some 35), none, .plain (.load none (.tmp 34))⟩,
     ⟨(some 36), none, .plain (.conv (.int .u32) (.tmp 35))⟩,
     ⟨(some 37), none, .call 63 [(.tmp 33), (.const (.int .i64 492)), (.tmp 36)]⟩])
  (.both (.seq [⟨(some 38), none, .plain (.mov (.tmp 4))⟩,
     ⟨(some 39), none, .call 63 [(.tmp 38), (.const (.int .i64 508)), (.const (.int .u32 2857697280))]⟩])
  (.both (.seq [⟨(some 40), none, .plain (.mov (.tmp 4))⟩,
     ⟨(some 2), none, .plain (.mov (.tmp 40))⟩,
     ⟨(some 3), none, .plain (.mov (.const (.int .i64 0)))⟩])
  .ret)))))))))⟩
/-- fettle/fat.ParseCounts -/
def a30 : AFunc := ⟨1, [.cell 2 (some 2), .tmp 3],
  (.both (.seq [⟨(some 2), none, .plain (.alloc [(.int .i64 0), (.int .i64 0)])⟩,
     ⟨(some 3), none, .plain (.mov (.const (.int .i64 0)))⟩])
  (.both (.seq [⟨(some 15), none, .plain (.mov (.tmp 0))⟩,
     ⟨(some 16), none, .call 68 [(.tmp 15), (.const (.int .i64 0))]⟩,
     ⟨(some 14), none, .plain (.mov (.tmp 16))⟩,
     ⟨(some 17), none, .plain (.extract (.tmp 14) 0)⟩,
     ⟨(some 18), none, .plain (.extract (.tmp 14) 1)⟩,
     ⟨(some 4), none, .plain (.mov (.tmp 17))⟩,
     ⟨(some 5), none, .plain (.mov (.tmp 18))⟩])
  (.both (.seq [⟨(some 20), none, .plain (.mov (.tmp 0))⟩,
     ⟨(some 21), none, .call 68 [(.tmp 20), (.const (.int .i64 484))]⟩,
     ⟨(some 19), none, .plain (.mov (.tmp 21))⟩,
     ⟨(some 22), none, .plain (.extract (.tmp 19) 0)⟩,
     ⟨(some 23), none, .plain (.extract (.tmp 19) 1)⟩,
     ⟨(some 6), none, .plain (.mov (.tmp 22))⟩,
     ⟨(some 7), none, .plain (.mov (.tmp 23))⟩])
  (.both (.seq [⟨(some 25), none, .plain (.mov (.tmp 0))⟩,
     ⟨(some 26), none, .call 68 [(.tmp 25), (.const (.int .i64 508))]⟩,
     ⟨(some 24), none, .plain (.mov (.tmp 26))⟩,
     ⟨(some 27), none, .plain (.extract (.tmp 24) 0)⟩,
     ⟨(some 28), none, .plain (.extract (.tmp 24) 1)⟩,
     ⟨(some 8), none, .plain (.mov (.tmp 27))⟩,
     ⟨(some 9), none, .plain (.mov (.tmp 28))⟩])
  (.both (.block 0 (.both (.seq [⟨(some 30), none, .plain (.mov (.tmp 9))⟩,
       ⟨(some 31), none, .plain (.un .not (.tmp 30))⟩,
       ⟨(some 32), none, .plain (.mov (.tmp 31))⟩,
       ⟨(some 33), (some (32, false)), .plain (.mov (.tmp 0))⟩,
       ⟨(some 34), (some (32, false)), .plain (.len .sl (.tmp 33))⟩,
       ⟨(some 35), (some (32, false)), .plain (.bin .neq (.tmp 34) (.const (.int .i64 512)))⟩,
       ⟨(some 36), none, .plain (.pick (.tmp 32) (.const (.bool true)) (.tmp 35))⟩,
       ⟨(some 29), none, .plain (.mov (.tmp 36))⟩])
    (.cond (.tmp 29)
     (.both (.seq [⟨(some 37), none, .plain (.build (.str [(.int .i64 0), (.int .i64 0)] [(0, 1), (1, 1)]) [])⟩,
        ⟨none, none, .plain (.store 2 (.tmp 2) (.tmp 37))⟩,
        ⟨(some 3), none, .plain (.mov (.const (.int .i64 4)))⟩])
     .ret)
     (.both (.seq [⟨(some 39), none, .plain (.mov (.tmp 4))⟩,
        ⟨(some 40), none, .plain (.bin .neq (.tmp 39) (.const (.int .u32 1096897106)))⟩,
        ⟨(some 41), none, .plain (.mov (.tmp 40))⟩,
        ⟨(some 42), (some (41, false)), .plain (.mov (.tmp 6))⟩,
        ⟨(some 43), (some (41, false)), .plain (.bin .neq (.tmp 42) (.const (.int .u32 1631679090)))⟩,
        ⟨(some 44), none, .plain (.pick (.tmp 41) (.const (.bool true)) (.tmp 43))⟩,
        ⟨(some 45), none, .plain (.mov (.tmp 44))⟩,
        ⟨(some 46), (some (45, false)), .plain (.mov (.tmp 8))⟩,
        ⟨(some 47), (some (45, false)), .plain (.bin .neq (.tmp 46) (.const (.int .u32 2857697280)))⟩,
        ⟨(some 48), none, .plain (.pick (.tmp 45) (.const (.bool true)) (.tmp 47))⟩,
        ⟨(some 38), none, .plain (.mov (.tmp 48))⟩])
     (.cond (.tmp 38)
      (.both (.seq [⟨(some 49), none, .plain (.build (.str [(.int .i64 0), (.int .i64 0)] [(0, 1), (1, 1)]) [])⟩,
         ⟨none, none, .plain (.store 2 (.tmp 2) (.tmp 49))⟩,
         ⟨(some 3), none, .plain (.mov (.const (.int .i64 10)))⟩])
      .ret)
      .skip)))))
  (.both (.seq [⟨(some 51), none, .plain (.mov (.tmp 0))⟩,
     ⟨(some 52), none, .call 68 [(.tmp 51), (.const (.int .i64 488))]⟩,
     ⟨(some 50), none, .plain (.mov (.tmp 52))⟩,
     ⟨(some 53), none, .plain (.extract (.tmp 50) 0)⟩,
     ⟨(some 54), none, .plain (.extract (.tmp 50) 1)⟩,
     ⟨(some 10), none, .plain (.mov (.tmp 53))⟩,
     ⟨(some 11), none, .plain (.mov (.tmp 54))⟩])
  (.both (.seq [⟨(some 56), none, .plain (.mov (.tmp 0))⟩,
     ⟨(some 57), none, .call 68 [(.tmp 56), (.const (.int .i64 492))]⟩,
     ⟨(some 55), none, .plain (.mov (.tmp 57))⟩,
     ⟨(some 58), none, .plain (.extract (.tmp 55) 0)⟩,
     ⟨(some 59), none, .plain (.extract (.tmp 55) 1)⟩,
     ⟨(some 12), none, .plain (.mov (.tmp 58))⟩,
     ⟨(some 13), none, .plain (.mov (.tmp 59))⟩])
  (.both (.seq [⟨(some 60), none, .plain (.mov (.tmp 10))⟩,
     ⟨(some 61), none, .plain (.conv (.int .i64) (.tmp 60))⟩,
     ⟨(some 62), none, .plain (.mov (.tmp 12))⟩,
     ⟨(some 63), none, .plain (.conv (.int .i64) (.tmp 62))⟩,
     ⟨(some 64), none, .plain (.build (.str [(.int .i64 0), (.int .i64 0)] [(0, 1), (1, 1)]) [(0, (.tmp 61)), (1, (.tmp 63))])⟩,
     ⟨none, none, .plain (.store 2 (.tmp 2) (.tmp 64))⟩,
     ⟨(some 3), none, .plain (.mov (.const (.int .i64 0)))⟩])
  .ret))))))))⟩
/-- fettle/fettleref16.CountsSector -/
def a31 : AFunc := ⟨2, [.tmp 4],
  (.both (.seq [⟨(some 4), none, .plain (.mov (.const (.slice none 0 0)))⟩])
  (.both (.seq [⟨(some 6), none, .call 34 [(.const (.int .i64 512))]⟩,
     ⟨(some 5), none, .plain (.mov (.tmp 6))⟩])
  (.both (.seq [⟨(some 7), none, .plain (.mov (.tmp 5))⟩,
     ⟨(some 8), none, .call 46 [(.const (.int .u64 1096897106)), (.const (.int .i64 4))]⟩,
     ⟨(some 9), none, .call 36 [(.tmp 7), (.const (.int .i64 0)), (.tmp 8)]⟩,
     ⟨(some 5), none, .plain (.mov (.tmp 9))⟩])
  (.both (.seq [⟨(some 10), none, .plain (.mov (.tmp 5))⟩,
     ⟨(some 11), none, .call 46 [(.const (.int .u64 1631679090)), (.const (.int .i64 4))]⟩,
     ⟨(some 12), none, .call 36 [(.tmp 10), (.const (.int .i64 484)), (.tmp 11)]⟩,
     ⟨(some 5), none, .plain (.mov (.tmp 12))⟩])
  (.both (.seq [⟨(some 13), none, .plain (.mov (.tmp 5))⟩,
     ⟨(some 14), none, .plain (.mov (.tmp 0))⟩,
     ⟨(some 15), none, .plain (.conv (.int .u64) (.tmp 14))⟩,
     ⟨(some 16), none, .call 46 [(.tmp 15), (.const (.int .i64 4))]⟩,
     ⟨(some 17), none, .call 36 [(.tmp 13), (.const (.int .i64 488)), (.tmp 16)]⟩,
     ⟨(some 5), none, .plain (.mov (.tmp 17))⟩])
  (.both (.seq [⟨(some 18), none, .plain (.mov (.tmp 5))⟩,
     ⟨(some 19), none, .plain (.mov (.tmp 1))⟩,
     ⟨(some 20), none, .plain (.conv (.int .u64) (.tmp 19))⟩,
     ⟨(some 21), none, .call 46 [(.tmp 20), (.const (.int .i64 4))]⟩,
     ⟨(some 22), none, .call 36 [(.tmp 18), (.const (.int .i64 492)), (.tmp 21)]⟩,
     ⟨(some 5), none, .plain (.mov (.tmp 22))⟩])
  (.both (.seq [⟨(some 23), none, .plain (.mov (.tmp 5))⟩,
     ⟨(some 24), none, .call 46 [(.const (.int .u64 2857697280)), (.const (.int .i64 4))]⟩,
     ⟨(some 25), none, .call 36 [(.tmp 23), (.const (.int .i64 508)), (.tmp 24)]⟩,
     ⟨(some 4), none, .plain (.mov (.tmp 25))⟩])
  .ret)))))))⟩
/-- fettle/fettleref01.Zeros -/
def a34 : AFunc := ⟨1, [.tmp 2],
  (.both (.seq [⟨(some 2), none, .plain (.mov (.const (.slice none 0 0)))⟩])
  (.both (.seq [⟨(some 3), none, .plain (.mov (.tmp 0))⟩,
     ⟨(some 4), none, .plain (.makeSlice ⟨1, 1, [(.int .u8 0)]⟩ (.tmp 3) (.tmp 3))⟩,
     ⟨(some 2), none, .plain (.mov (.tmp 4))⟩])
  .ret))⟩
/-- fettle/fettleref01.With -/
def a36 : AFunc := ⟨3, [.tmp 6],
  (.both (.seq [⟨(some 6), none, .plain (.mov (.const (.slice none 0 0)))⟩])
  (.both (.seq [⟨(some 7), none, .plain (.mov (.const (.slice none 0 0)))⟩])
  (.both (.seq [⟨(some 8), none, .plain (.mov (.tmp 7))⟩,
     ⟨(some 9), none, .plain (.mov (.tmp 0))⟩,
     ⟨(some 10), none, .plain (.mov (.tmp 1))⟩,
     ⟨(some 11), none, .plain (.cut (.sl 1) (.tmp 9) none (some (.tmp 10)) none)⟩,
     ⟨(some 12), none, .plain (.append ⟨1, 1, [(.int .u8 0)]⟩ false (.tmp 8) (.tmp 11))⟩,
     ⟨(some 7), none, .plain (.mov (.tmp 12))⟩])
  (.both (.seq [⟨(some 13), none, .plain (.mov (.tmp 7))⟩,
     ⟨(some 14), none, .plain (.mov (.tmp 2))⟩,
     ⟨(some 15), none, .plain (.append ⟨1, 1, [(.int .u8 0)]⟩ false (.tmp 13) (.tmp 14))⟩,
     ⟨(some 7), none, .plain (.mov (.tmp 15))⟩])
  (.both (.seq [⟨(some 16), none, .plain (.mov (.tmp 7))⟩,
     ⟨(some 17), none, .plain (.mov (.tmp 0))⟩,
     ⟨(some 18), none, .plain (.mov (.tmp 1))⟩,
     ⟨(some 19), none, .plain (.mov (.tmp 2))⟩,
     ⟨(some 20), none, .plain (.len .sl (.tmp 19))⟩,
     ⟨(some 21), none, .plain (.bin .add (.tmp 18) (.tmp 20))⟩,
     ⟨(some 22), none, .plain (.cut (.sl 1) (.tmp 17) (some (.tmp 21)) none none)⟩,
     ⟨(some 23), none, .plain (.append ⟨1, 1, [(.int .u8 0)]⟩ false (.tmp 16) (.tmp 22))⟩,
     ⟨(some 6), none, .plain (.mov (.tmp 23))⟩])
  .ret)))))⟩
/-- fettle/fat.Make -/
def a39 : AFunc := ⟨2, [.tmp 4, .tmp 5],
  (.both (.seq [⟨(some 4), none, .plain (.mov (.const (.slice none 0 0)))⟩,
     ⟨(some 5), none, .plain (.mov (.const (.int .i64 0)))⟩])
  (.both (.both (.seq [⟨(some 14), none, .plain (.mov (.tmp 0))⟩,
      ⟨(some 15), none, .plain (.bin .lss (.tmp 14) (.const (.int .i64 16)))⟩,
      ⟨(some 16), none, .plain (.mov (.tmp 15))⟩,
      ⟨(some 17), (some (16, false)), .plain (.mov (.tmp 0))⟩,
      ⟨(some 18), (some (16, false)), .plain (.bin .gtr (.tmp 17) (.const (.int .i64 32768)))⟩,
      ⟨(some 19), none, .plain (.pick (.tmp 16) (.const (.bool true)) (.tmp 18))⟩,
      ⟨(some 20), none, .plain (.mov (.tmp 19))⟩,
      ⟨(some 21), (some (20, false)), .plain (.mov (.tmp 1))⟩,
      ⟨(some 22), (some (20, false)), .plain (.bin .lss (.tmp 21) (.const (.int .i64 1)))⟩,
      ⟨(some 23), none, .plain (.pick (.tmp 20) (.const (.bool true)) (.tmp 22))⟩,
      ⟨(some 24), none, .plain (.mov (.tmp 23))⟩,
      ⟨(some 25), (some (24, false)), .plain (.mov (.tmp 1))⟩,
      ⟨(some 26), (some (24, false)), .plain (.bin .gtr (.tmp 25) (.const (.int .i64 8)))⟩,
      ⟨(some 27), none, .plain (.pick (.tmp 24) (.const (.bool true)) (.tmp 26))⟩])
   (.cond (.tmp 27)
    (.both (.seq [⟨(some 4), none, .plain (.mov (.const (.slice none 0 0)))⟩,
       ⟨(some 5), none, .plain (.mov (.const (.int .i64 4)))⟩])
    .ret)
    .skip))
  (.both (.seq [⟨(some 28), none, .plain (.mov (.tmp 1))⟩,
     ⟨(some 29), none, .plain (.mov (.tmp 0))⟩,
     ⟨(some 30), none, .plain (.build (.str [(.int .i64 0), (.int .i64 0), (.int .i64 0), (.int .i64 0), (.int .i64 0), (.int .i64 0), (.int .i64 0), (.int .i64 0)] [(0, 1), (1, 1), (2, 1), (3, 1), (4, 1), (5, 1), (6, 1), (7, 1)]) [(0, (.tmp 28)), (1, (.const (.int .i64 4))), (2, (.const (.int .i64 2))), (3, (.tmp 29)), (5, (.const (.int .i64 2))), (6, (.const (.int .i64 1))), (7, (.const (.int .i64 2)))])⟩,
     ⟨(some 6), none, .plain (.alloc [(.int .i64 0), (.int .i64 0), (.int .i64 0), (.int .i64 0), (.int .i64 0), (.int .i64 0), (.int .i64 0), (.int .i64 0)])⟩,
     ⟨none, none, .plain (.store 8 (.tmp 6) (.tmp 30))⟩])
  (.both (.seq [⟨(some 31), none, .plain (.mov (.tmp 0))⟩,
     ⟨(some 32), none, .plain (.mov (.tmp 1))⟩,
     ⟨(some 33), none, .plain (.bin .quo (.tmp 31) (.tmp 32))⟩,
     ⟨(some 34), none, .plain (.bin .add (.tmp 33) (.const (.int .i64 2)))⟩,
     ⟨(some 35), none, .plain (.bin .add (.tmp 34) (.const (.int .i64 128)))⟩,
     ⟨(some 36), none, .plain (.bin .sub (.tmp 35) (.const (.int .i64 1)))⟩,
     ⟨(some 37), none, .plain (.bin .quo (.tmp 36) (.const (.int .i64 128)))⟩,
     ⟨(some 38), none, .plain (.faddr 4 (.tmp 6))⟩,
     ⟨none, none, .plain (.store 1 (.tmp 38) (.tmp 37))⟩])
  (.both (.seq [⟨(some 39), none, .plain (.mov (.tmp 0))⟩,
     ⟨(some 40), none, .plain (.bin .mul (.tmp 39) (.const (.int .i64 512)))⟩,
     ⟨(some 41), none, .plain (.makeSlice ⟨1, 1, [(.int .u8 0)]⟩ (.tmp 40) (.tmp 40))⟩,
     ⟨(some 7), none, .plain (.mov (.tmp 41))⟩])
  (.both (.seq [⟨(some 42), none, .plain (.makeSlice ⟨1, 1, [(.int .u8 0)]⟩ (.const (.int .i64 512)) (.const (.int .i64 512)))⟩,
     ⟨(some 8), none, .plain (.mov (.tmp 42))⟩])
  (.both (.both (.seq [⟨(some 43), none, .plain (.load (some 8) (.tmp 6))⟩,
      ⟨(some 44), none, .plain (.mov (.tmp 8))⟩,
      ⟨(some 45), none, .call 23 [(.tmp 43), (.tmp 44)]⟩,
      ⟨(some 9), none, .plain (.mov (.tmp 45))⟩])
   (.both (.seq [⟨(some 46), none, .plain (.mov (.tmp 9))⟩,
      ⟨(some 47), none, .plain (.bin .neq (.tmp 46) (.const (.int .i64 0)))⟩])
   (.cond (.tmp 47)
    (.both (.seq [⟨(some 48), none, .plain (.mov (.tmp 9))⟩,
       ⟨(some 4), none, .plain (.mov (.const (.slice none 0 0)))⟩,
       ⟨(some 5), none, .plain (.mov (.tmp 48))⟩])
    .ret)
    .skip)))
  (.both (.seq [⟨(some 50), none, .plain (.load (some 8) (.tmp 6))⟩,
     ⟨(some 51), none, .call 44 [(.tmp 50)]⟩,
     ⟨(some 52), none, .plain (.bin .sub (.tmp 51) (.const (.int .i64 1)))⟩,
     ⟨(some 53), none, .plain (.build (.str [(.int .i64 0), (.int .i64 0)] [(0, 1), (1, 1)]) [(0, (.tmp 52)), (1, (.const (.int .i64 3)))])⟩,
     ⟨(some 54), none, .call 29 [(.tmp 53)]⟩,
     ⟨(some 49), none, .plain (.mov (.tmp 54))⟩,
     ⟨(some 55), none, .plain (.extract (.tmp 49) 0)⟩,
     ⟨(some 56), none, .plain (.extract (.tmp 49) 1)⟩,
     ⟨(some 10), none, .plain (.mov (.tmp 55))⟩,
     ⟨(some 11), none, .plain (.mov (.tmp 56))⟩])
  (.both (.both (.seq [⟨(some 57), none, .plain (.mov (.tmp 11))⟩,
      ⟨(some 58), none, .plain (.bin .neq (.tmp 57) (.const (.int .i64 0)))⟩])
   (.cond (.tmp 58)
    (.both (.seq [⟨(some 59), none, .plain (.mov (.tmp 11))⟩,
       ⟨(some 4), none, .plain (.mov (.const (.slice none 0 0)))⟩,
       ⟨(some 5), none, .plain (.mov (.tmp 59))⟩])
    .ret)
    .skip))
  (.both (.seq [⟨(some 60), none, .plain (.mov (.tmp 7))⟩,
     ⟨(some 61), none, .plain (.mov (.tmp 8))⟩,
     ⟨(some 62), none, .call 64 [(.tmp 60), (.const (.int .i64 0)), (.tmp 61)]⟩])
  (.both (.seq [⟨(some 63), none, .plain (.mov (.tmp 7))⟩,
     ⟨(some 64), none, .plain (.mov (.tmp 10))⟩,
     ⟨(some 65), none, .call 64 [(.tmp 63), (.const (.int .i64 512)), (.tmp 64)]⟩])
  (.both (.seq [⟨(some 66), none, .plain (.mov (.tmp 7))⟩,
     ⟨(some 67), none, .plain (.mov (.tmp 8))⟩,
     ⟨(some 68), none, .call 64 [(.tmp 66), (.const (.int .i64 1024)), (.tmp 67)]⟩])
  (.both (.both (.seq [⟨(some 69), none, .plain (.faddr 2 (.tmp 6))⟩,
      ⟨(some 70), none, .plain (.load none (.tmp 69))⟩,
      ⟨(some 71), none, .plain (.mov (.const (.int .i64 0)))⟩])
   (.block 0 (.loop (.both (.seq [⟨(some 72), none, .plain (.bin .lss (.tmp 71) (.tmp 70))⟩])
     (.both (.cond (.tmp 72)
       .skip
       (.exit 0))
     (.both (.block 1 (.both (.seq [⟨(some 73), none, .plain (.mov (.tmp 71))⟩,
          ⟨(some 12), none, .plain (.mov (.tmp 73))⟩])
       (.both (.seq [⟨(some 74), none, .plain (.faddr 1 (.tmp 6))⟩,
          ⟨(some 75), none, .plain (.load none (.tmp 74))⟩,
          ⟨(some 76), none, .plain (.mov (.tmp 12))⟩,
          ⟨(some 77), none, .plain (.faddr 4 (.tmp 6))⟩,
          ⟨(some 78), none, .plain (.load none (.tmp 77))⟩,
          ⟨(some 79), none, .plain (.bin .mul (.tmp 76) (.tmp 78))⟩,
          ⟨(some 80), none, .plain (.bin .add (.tmp 75) (.tmp 79))⟩,
          ⟨(some 81), none, .plain (.bin .mul (.tmp 80) (.const (.int .i64 512)))⟩,
          ⟨(some 13), none, .plain (.mov (.tmp 81))⟩])
       (.both (.seq [⟨(some 82), none, .plain (.mov (.tmp 7))⟩,
          ⟨(some 83), none, .plain (.mov (.tmp 13))⟩,
          ⟨(some 84), none, .call 63 [(.tmp 82), (.tmp 83), (.const (.int .u32 268435448))]⟩])
       (.both (.seq [⟨(some 85), none, .plain (.mov (.tmp 7))⟩,
          ⟨(some 86), none, .plain (.mov (.tmp 13))⟩,
          ⟨(some 87), none, .plain (.bin .add (.tmp 86) (.const (.int .i64 4)))⟩,
          ⟨(some 88), none, .call 63 [(.tmp 85), (.tmp 87), (.const (.int .u32 268435455))]⟩])
       (.seq [⟨(some 89), none, .plain (.mov (.tmp 7))⟩,
         ⟨(some 90), none, .plain (.mov (.tmp 13))⟩,
         ⟨(some 91), none, .plain (.bin .add (.tmp 90) (.const (.int .i64 8)))⟩,
         ⟨(some 92), none, .call 63 [(.tmp 89), (.tmp 91), (.const (.int .u32 268435455))]⟩]))))))
     (.seq [⟨(some 93), none, .plain (.bin .add (.tmp 71) (.const (.int .i64 1)))⟩,
       ⟨(some 71), none, .plain (.mov (.tmp 93))⟩])))))))
  (.both (.seq [⟨(some 94), none, .plain (.mov (.tmp 7))⟩,
     ⟨(some 4), none, .plain (.mov (.tmp 94))⟩,
     ⟨(some 5), none, .plain (.mov (.const (.int .i64 0)))⟩])
  .ret))))))))))))))⟩
/-- fettle/fettleref16.Made -/
def a40 : AFunc := ⟨2, [.tmp 4, .tmp 5],
  (.both (.seq [⟨(some 4), none, .plain (.mov (.const (.slice none 0 0)))⟩,
     ⟨(some 5), none, .plain (.mov (.const (.int .i64 0)))⟩])
  (.both (.both (.seq [⟨(some 13), none, .plain (.mov (.tmp 0))⟩,
      ⟨(some 14), none, .plain (.bin .lss (.tmp 13) (.const (.int .i64 16)))⟩,
      ⟨(some 15), none, .plain (.mov (.tmp 14))⟩,
      ⟨(some 16), (some (15, false)), .plain (.mov (.tmp 0))⟩,
      ⟨(some 17), (some (15, false)), .plain (.bin .gtr (.tmp 16) (.const (.int .i64 32768)))⟩,
      ⟨(some 18), none, .plain (.pick (.tmp 15) (.const (.bool true)) (.tmp 17))⟩,
      ⟨(some 19), none, .plain (.mov (.tmp 18))⟩,
      ⟨(some 20), (some (19, false)), .plain (.mov (.tmp 1))⟩,
      ⟨(some 21), (some (19, false)), .plain (.bin .lss (.tmp 20) (.const (.int .i64 1)))⟩,
      ⟨(some 22), none, .plain (.pick (.tmp 19) (.const (.bool true)) (.tmp 21))⟩,
      ⟨(some 23), none, .plain (.mov (.tmp 22))⟩,
      ⟨(some 24), (some (23, false)), .plain (.mov (.tmp 1))⟩,
      ⟨(some 25), (some (23, false)), .plain (.bin .gtr (.tmp 24) (.const (.int .i64 8)))⟩,
      ⟨(some 26), none, .plain (.pick (.tmp 23) (.const (.bool true)) (.tmp 25))⟩])
   (.cond (.tmp 26)
    (.both (.seq [⟨(some 4), none, .plain (.mov (.const (.slice none 0 0)))⟩,
       ⟨(some 5), none, .plain (.mov (.const (.int .i64 4)))⟩])
    .ret)
    .skip))
  (.both (.seq [⟨(some 27), none, .plain (.mov (.tmp 0))⟩,
     ⟨(some 28), none, .plain (.mov (.tmp 1))⟩,
     ⟨(some 29), none, .plain (.bin .quo (.tmp 27) (.tmp 28))⟩,
     ⟨(some 30), none, .plain (.bin .add (.tmp 29) (.const (.int .i64 2)))⟩,
     ⟨(some 6), none, .plain (.mov (.tmp 30))⟩])
  (.both (.seq [⟨(some 31), none, .plain (.mov (.tmp 6))⟩,
     ⟨(some 32), none, .plain (.bin .quo (.tmp 31) (.const (.int .i64 128)))⟩,
     ⟨(some 7), none, .plain (.mov (.tmp 32))⟩])
  (.both (.both (.seq [⟨(some 33), none, .plain (.mov (.tmp 6))⟩,
      ⟨(some 34), none, .plain (.bin .rem (.tmp 33) (.const (.int .i64 128)))⟩,
      ⟨(some 35), none, .plain (.bin .gtr (.tmp 34) (.const (.int .i64 0)))⟩])
   (.cond (.tmp 35)
    (.seq [⟨(some 36), none, .plain (.mov (.tmp 7))⟩,
      ⟨(some 37), none, .plain (.bin .add (.tmp 36) (.const (.int .i64 1)))⟩,
      ⟨(some 7), none, .plain (.mov (.tmp 37))⟩])
    .skip))
  (.both (.seq [⟨(some 38), none, .plain (.mov (.tmp 1))⟩,
     ⟨(some 39), none, .plain (.mov (.tmp 0))⟩,
     ⟨(some 40), none, .plain (.mov (.tmp 7))⟩,
     ⟨(some 41), none, .plain (.build (.str [(.int .i64 0), (.int .i64 0), (.int .i64 0), (.int .i64 0), (.int .i64 0), (.int .i64 0), (.int .i64 0), (.int .i64 0)] [(0, 1), (1, 1), (2, 1), (3, 1), (4, 1), (5, 1), (6, 1), (7, 1)]) [(0, (.tmp 38)), (1, (.const (.int .i64 4))), (2, (.const (.int .i64 2))), (3, (.tmp 39)), (4, (.tmp 40)), (5, (.const (.int .i64 2))), (6, (.const (.int .i64 1))), (7, (.const (.int .i64 2)))])⟩,
     ⟨(some 8), none, .plain (.alloc [(.int .i64 0), (.int .i64 0), (.int .i64 0), (.int .i64 0), (.int .i64 0), (.int .i64 0), (.int .i64 0), (.int .i64 0)])⟩,
     ⟨none, none, .plain (.store 8 (.tmp 8) (.tmp 41))⟩])
  (.both (.both (.seq [⟨(some 42), none, .plain (.load (some 8) (.tmp 8))⟩,
      ⟨(some 43), none, .call 26 [(.tmp 42)]⟩,
      ⟨(some 9), none, .plain (.mov (.tmp 43))⟩])
   (.both (.seq [⟨(some 44), none, .plain (.mov (.tmp 9))⟩,
      ⟨(some 45), none, .plain (.bin .neq (.tmp 44) (.const (.int .i64 0)))⟩])
   (.cond (.tmp 45)
    (.both (.seq [⟨(some 46), none, .plain (.mov (.tmp 9))⟩,
       ⟨(some 4), none, .plain (.mov (.const (.slice none 0 0)))⟩,
       ⟨(some 5), none, .plain (.mov (.tmp 46))⟩])
    .ret)
    .skip)))
  (.both (.seq [⟨(some 47), none, .plain (.mov (.tmp 0))⟩,
     ⟨(some 48), none, .plain (.bin .mul (.const (.int .i64 512)) (.tmp 47))⟩,
     ⟨(some 49), none, .call 34 [(.tmp 48)]⟩,
     ⟨(some 10), none, .plain (.mov (.tmp 49))⟩])
  (.both (.draw 0 [⟨0, .read, 0, ⟨(some 50), none, .plain (.load (some 8) (.tmp 8))⟩, [], []⟩,
     ⟨1, .chain, 0, ⟨(some 51), none, .call 34 [(.const (.int .i64 512))]⟩, [0], []⟩,
     ⟨2, .chain, 0, ⟨(some 52), none, .call 28 [(.tmp 50), (.tmp 51)]⟩, [], []⟩,
     ⟨3, .pure, 0, ⟨(some 11), none, .plain (.mov (.tmp 52))⟩, [], []⟩])
  (.both (.seq [⟨(some 53), none, .plain (.mov (.tmp 10))⟩,
     ⟨(some 54), none, .plain (.mov (.tmp 11))⟩,
     ⟨(some 55), none, .call 36 [(.tmp 53), (.const (.int .i64 0)), (.tmp 54)]⟩,
     ⟨(some 10), none, .plain (.mov (.tmp 55))⟩])
  (.both (.seq [⟨(some 56), none, .plain (.mov (.tmp 10))⟩,
     ⟨(some 57), none, .plain (.load (some 8) (.tmp 8))⟩,
     ⟨(some 58), none, .call 66 [(.tmp 57)]⟩,
     ⟨(some 59), none, .plain (.bin .sub (.tmp 58) (.const (.int .i64 1)))⟩,
     ⟨(some 60), none, .call 31 [(.tmp 59), (.const (.int .i64 3))]⟩,
     ⟨(some 61), none, .call 36 [(.tmp 56), (.const (.int .i64 512)), (.tmp 60)]⟩,
     ⟨(some 10), none, .plain (.mov (.tmp 61))⟩])
  (.both (.seq [⟨(some 62), none, .plain (.mov (.tmp 10))⟩,
     ⟨(some 63), none, .plain (.mov (.tmp 11))⟩,
     ⟨(some 64), none, .call 36 [(.tmp 62), (.const (.int .i64 1024)), (.tmp 63)]⟩,
     ⟨(some 10), none, .plain (.mov (.tmp 64))⟩])
  (.both (.seq [⟨(some 65), none, .call 46 [(.const (.int .u64 268435448)), (.const (.int .i64 4))]⟩,
     ⟨(some 12), none, .plain (.mov (.tmp 65))⟩])
  (.both (.seq [⟨(some 66), none, .plain (.mov (.tmp 12))⟩,
     ⟨(some 67), none, .call 46 [(.const (.int .u64 268435455)), (.const (.int .i64 4))]⟩,
     ⟨(some 68), none, .plain (.append ⟨1, 1, [(.int .u8 0)]⟩ false (.tmp 66) (.tmp 67))⟩,
     ⟨(some 12), none, .plain (.mov (.tmp 68))⟩])
  (.both (.seq [⟨(some 69), none, .plain (.mov (.tmp 12))⟩,
     ⟨(some 70), none, .call 46 [(.const (.int .u64 268435455)), (.const (.int .i64 4))]⟩,
     ⟨(some 71), none, .plain (.append ⟨1, 1, [(.int .u8 0)]⟩ false (.tmp 69) (.tmp 70))⟩,
     ⟨(some 12), none, .plain (.mov (.tmp 71))⟩])
  (.both (.seq [⟨(some 72), none, .plain (.mov (.tmp 10))⟩,
     ⟨(some 73), none, .plain (.mov (.tmp 12))⟩,
     ⟨(some 74), none, .call 36 [(.tmp 72), (.const (.int .i64 2048)), (.tmp 73)]⟩,
     ⟨(some 10), none, .plain (.mov (.tmp 74))⟩])
  (.both (.seq [⟨(some 75), none, .plain (.mov (.tmp 10))⟩,
     ⟨(some 76), none, .plain (.mov (.tmp 7))⟩,
     ⟨(some 77), none, .plain (.bin .mul (.const (.int .i64 512)) (.tmp 76))⟩,
     ⟨(some 78), none, .plain (.bin .add (.const (.int .i64 2048)) (.tmp 77))⟩,
     ⟨(some 79), none, .plain (.mov (.tmp 12))⟩,
     ⟨(some 80), none, .call 36 [(.tmp 75), (.tmp 78), (.tmp 79)]⟩,
     ⟨(some 4), none, .plain (.mov (.tmp 80))⟩,
     ⟨(some 5), none, .plain (.mov (.const (.int .i64 0)))⟩])
  .ret)))))))))))))))))⟩
/-- fettle/fat.Open -/
def a41 : AFunc := ⟨1, [.tmp 2, .tmp 3],
  (.both (.seq [⟨(some 2), none, .plain (.mov (.const (.pointer none)))⟩,
     ⟨(some 3), none, .plain (.mov (.const (.int .i64 0)))⟩])
  (.both (.both (.seq [⟨(some 12), none, .plain (.mov (.tmp 0))⟩,
      ⟨(some 13), none, .plain (.eqN false .iface true (.tmp 12) (.const .nilIface))⟩])
   (.cond (.tmp 13)
    (.both (.seq [⟨(some 2), none, .plain (.mov (.const (.pointer none)))⟩,
       ⟨(some 3), none, .plain (.mov (.const (.int .i64 2)))⟩])
    .ret)
    .skip))
  (.both (.seq [⟨(some 15), none, .plain (.mov (.tmp 0))⟩,
     ⟨(some 16), none, .invoke (.tmp 15) [(74, 151), (82, 153)] [(.const (.int .i64 0)), (.const (.int .i64 512))]⟩,
     ⟨(some 14), none, .plain (.mov (.tmp 16))⟩,
     ⟨(some 17), none, .plain (.extract (.tmp 14) 0)⟩,
     ⟨(some 18), none, .plain (.extract (.tmp 14) 1)⟩,
     ⟨(some 4), none, .plain (.mov (.tmp 17))⟩,
     ⟨(some 5), none, .plain (.mov (.tmp 18))⟩])
  (.both (.both (.seq [⟨(some 19), none, .plain (.mov (.tmp 5))⟩,
      ⟨(some 20), none, .plain (.bin .neq (.tmp 19) (.const (.int .i64 0)))⟩])
   (.cond (.tmp 20)
    (.both (.seq [⟨(some 21), none, .plain (.mov (.tmp 5))⟩,
       ⟨(some 2), none, .plain (.mov (.const (.pointer none)))⟩,
       ⟨(some 3), none, .plain (.mov (.tmp 21))⟩])
    .ret)
    .skip))
  (.both (.seq [⟨(some 23), none, .plain (.mov (.tmp 4))⟩,
     ⟨(some 24), none, .call 27 [(.tmp 23)]⟩,
     ⟨(some 22), none, .plain (.mov (.tmp 24))⟩,
     ⟨(some 25), none, .plain (.extract (.tmp 22) 0)⟩,
     ⟨(some 26), none, .plain (.extract (.tmp 22) 1)⟩,
     ⟨(some 6), none, .plain (.alloc [(.int .i64 0), (.int .i64 0), (.int .i64 0), (.int .i64 0), (.int .i64 0), (.int .i64 0), (.int .i64 0), (.int .i64 0)])⟩,
     ⟨none, none, .plain (.store 8 (.tmp 6) (.tmp 25))⟩,
     ⟨(some 5), none, .plain (.mov (.tmp 26))⟩])
  (.both (.both (.seq [⟨(some 27), none, .plain (.mov (.tmp 5))⟩,
      ⟨(some 28), none, .plain (.bin .neq (.tmp 27) (.const (.int .i64 0)))⟩])
   (.cond (.tmp 28)
    (.both (.seq [⟨(some 29), none, .plain (.mov (.tmp 5))⟩,
       ⟨(some 2), none, .plain (.mov (.const (.pointer none)))⟩,
       ⟨(some 3), none, .plain (.mov (.tmp 29))⟩])
    .ret)
    .skip))
  (.both (.both (.draw 0 [⟨0, .pure, 0, ⟨(some 30), none, .plain (.faddr 3 (.tmp 6))⟩, [], []⟩,
      ⟨1, .read, 0, ⟨(some 31), none, .plain (.load none (.tmp 30))⟩, [], []⟩,
      ⟨2, .pure, 0, ⟨(some 32), none, .plain (.mov (.tmp 0))⟩, [], []⟩,
      ⟨3, .chain, 0, ⟨(some 33), none, .invoke (.tmp 32) [(17, 148), (74, 152), (82, 154)] []⟩, [1], []⟩,
      ⟨4, .pure, 0, ⟨(some 34), none, .plain (.bin .quo (.tmp 33) (.const (.int .i64 512)))⟩, [], []⟩,
      ⟨5, .pure, 0, ⟨(some 35), none, .plain (.bin .gtr (.tmp 31) (.tmp 34))⟩, [], []⟩])
   (.cond (.tmp 35)
    (.both (.seq [⟨(some 2), none, .plain (.mov (.const (.pointer none)))⟩,
       ⟨(some 3), none, .plain (.mov (.const (.int .i64 4)))⟩])
    .ret)
    .skip))
  (.both (.both (.seq [⟨(some 36), none, .plain (.faddr 7 (.tmp 6))⟩,
      ⟨(some 37), none, .plain (.load none (.tmp 36))⟩,
      ⟨(some 38), none, .plain (.bin .neq (.tmp 37) (.const (.int .i64 0)))⟩])
   (.cond (.tmp 38)
    (.both (.seq [⟨(some 40), none, .plain (.mov (.tmp 0))⟩,
       ⟨(some 41), none, .plain (.faddr 7 (.tmp 6))⟩,
       ⟨(some 42), none, .plain (.load none (.tmp 41))⟩,
       ⟨(some 43), none, .plain (.bin .mul (.tmp 42) (.const (.int .i64 512)))⟩,
       ⟨(some 44), none, .invoke (.tmp 40) [(74, 151), (82, 153)] [(.tmp 43), (.const (.int .i64 512))]⟩,
       ⟨(some 39), none, .plain (.mov (.tmp 44))⟩,
       ⟨(some 45), none, .plain (.extract (.tmp 39) 0)⟩,
       ⟨(some 46), none, .plain (.extract (.tmp 39) 1)⟩,
       ⟨(some 7), none, .plain (.mov (.tmp 45))⟩,
       ⟨(some 8), none, .plain (.mov (.tmp 46))⟩])
    (.both (.both (.seq [⟨(some 47), none, .plain (.mov (.tmp 8))⟩,
        ⟨(some 48), none, .plain (.bin .neq (.tmp 47) (.const (.int .i64 0)))⟩])
     (.cond (.tmp 48)
      (.both (.seq [⟨(some 49), none, .plain (.mov (.tmp 8))⟩,
         ⟨(some 2), none, .plain (.mov (.const (.pointer none)))⟩,
         ⟨(some 3), none, .plain (.mov (.tmp 49))⟩])
      .ret)
      .skip))
    (.both (.seq [⟨(some 50), none, .plain (.mov (.tmp 7))⟩,
       ⟨(some 51), none, .plain (.conv .b2s (.tmp 50))⟩,
       ⟨(some 52), none, .plain (.mov (.tmp 4))⟩,
       ⟨(some 53), none, .plain (.conv .b2s (.tmp 52))⟩,
       ⟨(some 54), none, .plain (.bin .neq (.tmp 51) (.tmp 53))⟩])
    (.cond (.tmp 54)
     (.both (.seq [⟨(some 2), none, .plain (.mov (.const (.pointer none)))⟩,
        ⟨(some 3), none, .plain (.mov (.const (.int .i64 11)))⟩])
     .ret)
     .skip))))
    .skip))
  (.both (.seq [⟨(some 55), none, .plain (.load (some 8) (.tmp 6))⟩,
     ⟨(some 56), none, .plain (.build (.str [(.int .i64 0), (.int .i64 0), (.int .i64 0), (.int .i64 0), (.int .i64 0), (.int .i64 0), (.int .i64 0), (.int .i64 0), (.slice none 0 0), (.int .i64 0), (.int .i64 0)] [(0, 8), (8, 1), (9, 2)]) [(0, (.tmp 55))])⟩,
     ⟨(some 57), none, .plain (.box (.tmp 56))⟩,
     ⟨(some 9), none, .plain (.mov (.tmp 57))⟩])
  (.both (.seq [⟨(some 59), none, .plain (.mov (.tmp 0))⟩,
     ⟨(some 60), none, .plain (.faddr 6 (.tmp 6))⟩,
     ⟨(some 61), none, .plain (.load none (.tmp 60))⟩,
     ⟨(some 62), none, .plain (.bin .mul (.tmp 61) (.const (.int .i64 512)))⟩,
     ⟨(some 63), none, .invoke (.tmp 59) [(74, 151), (82, 153)] [(.tmp 62), (.const (.int .i64 512))]⟩,
     ⟨(some 58), none, .plain (.mov (.tmp 63))⟩,
     ⟨(some 64), none, .plain (.extract (.tmp 58) 0)⟩,
     ⟨(some 65), none, .plain (.extract (.tmp 58) 1)⟩,
     ⟨(some 10), none, .plain (.mov (.tmp 64))⟩,
     ⟨(some 5), none, .plain (.mov (.tmp 65))⟩])
  (.both (.both (.seq [⟨(some 66), none, .plain (.mov (.tmp 5))⟩,
      ⟨(some 67), none, .plain (.bin .neq (.tmp 66) (.const (.int .i64 0)))⟩])
   (.cond (.tmp 67)
    (.both (.seq [⟨(some 68), none, .plain (.mov (.tmp 5))⟩,
       ⟨(some 2), none, .plain (.mov (.const (.pointer none)))⟩,
       ⟨(some 3), none, .plain (.mov (.tmp 68))⟩])
    .ret)
    .skip))
  (.both (.both (.seq [⟨(some 70), none, .plain (.mov (.tmp 9))⟩,
      ⟨(some 71), none, .plain (.mov (.tmp 10))⟩,
      ⟨(some 72), none, .call 30 [(.tmp 71)]⟩,
      ⟨(some 69), none, .plain (.mov (.tmp 72))⟩,
      ⟨(some 73), none, .plain (.extract (.tmp 69) 0)⟩,
      ⟨(some 74), none, .plain (.extract (.tmp 69) 1)⟩,
      ⟨(some 75), none, .plain (.nilCheck (.tmp 70))⟩,
      ⟨(some 76), none, .plain (.faddr 9 (.tmp 75))⟩,
      ⟨none, none, .plain (.store 2 (.tmp 76) (.tmp 73))⟩,
      ⟨(some 5), none, .plain (.mov (.tmp 74))⟩])
   (.both (.seq [⟨(some 77), none, .plain (.mov (.tmp 5))⟩,
      ⟨(some 78), none, .plain (.bin .neq (.tmp 77) (.const (.int .i64 0)))⟩])
   (.cond (.tmp 78)
    (.both (.seq [⟨(some 79), none, .plain (.mov (.tmp 5))⟩,
       ⟨(some 2), none, .plain (.mov (.const (.pointer none)))⟩,
       ⟨(some 3), none, .plain (.mov (.tmp 79))⟩])
    .ret)
    .skip)))
  (.both (.both (.seq [⟨(some 80), none, .plain (.mov (.tmp 9))⟩,
      ⟨(some 81), none, .plain (.mov (.tmp 0))⟩,
      ⟨(some 82), none, .call 78 [(.tmp 80), (.tmp 81)]⟩,
      ⟨(some 11), none, .plain (.mov (.tmp 82))⟩])
   (.both (.seq [⟨(some 83), none, .plain (.mov (.tmp 11))⟩,
      ⟨(some 84), none, .plain (.bin .neq (.tmp 83) (.const (.int .i64 0)))⟩])
   (.cond (.tmp 84)
    (.both (.seq [⟨(some 85), none, .plain (.mov (.tmp 11))⟩,
       ⟨(some 2), none, .plain (.mov (.const (.pointer none)))⟩,
       ⟨(some 3), none, .plain (.mov (.tmp 85))⟩])
    .ret)
    .skip)))
  (.both (.both (.draw 0 [⟨0, .pure, 0, ⟨(some 86), none, .plain (.mov (.tmp 9))⟩, [], []⟩,
      ⟨1, .pure, 0, ⟨(some 87), none, .plain (.nilCheck (.tmp 86))⟩, [], []⟩,
      ⟨2, .pure, 0, ⟨(some 88), none, .plain (.faddr 9 (.tmp 87))⟩, [], []⟩,
      ⟨3, .pure, 0, ⟨(some 89), none, .plain (.faddr 0 (.tmp 88))⟩, [], []⟩,
      ⟨4, .read, 0, ⟨(some 90), none, .plain (.load none (.tmp 89))⟩, [], []⟩,
      ⟨5, .pure, 0, ⟨(some 91), none, .plain (.bin .neq (.tmp 90) (.const (.int .i64 4294967295)))⟩, [], []⟩,
      ⟨6, .pure, 0, ⟨(some 92), none, .plain (.mov (.tmp 91))⟩, [], []⟩,
      ⟨7, .pure, 0, ⟨(some 93), (some (92, true)), .plain (.mov (.tmp 9))⟩, [], []⟩,
      ⟨8, .pure, 0, ⟨(some 94), (some (92, true)), .plain (.nilCheck (.tmp 93))⟩, [], []⟩,
      ⟨9, .pure, 0, ⟨(some 95), (some (92, true)), .plain (.faddr 9 (.tmp 94))⟩, [], []⟩,
      ⟨10, .pure, 0, ⟨(some 96), (some (92, true)), .plain (.faddr 0 (.tmp 95))⟩, [], []⟩,
      ⟨11, .read, 0, ⟨(some 97), (some (92, true)), .plain (.load none (.tmp 96))⟩, [], []⟩,
      ⟨12, .pure, 0, ⟨(some 98), (some (92, true)), .plain (.mov (.tmp 9))⟩, [], []⟩,
      ⟨13, .chain, 0, ⟨(some 99), (some (92, true)), .call 79 [(.tmp 98)]⟩, [11], []⟩,
      ⟨14, .pure, 0, ⟨(some 100), (some (92, true)), .plain (.bin .neq (.tmp 97) (.tmp 99))⟩, [], []⟩,
      ⟨15, .pure, 0, ⟨(some 101), none, .plain (.pick (.tmp 92) (.tmp 100) (.const (.bool false)))⟩, [], []⟩])
   (.cond (.tmp 101)
    (.both (.seq [⟨(some 2), none, .plain (.mov (.const (.pointer none)))⟩,
       ⟨(some 3), none, .plain (.mov (.const (.int .i64 23)))⟩])
    .ret)
    .skip))
  (.both (.seq [⟨(some 102), none, .plain (.mov (.tmp 9))⟩,
     ⟨(some 2), none, .plain (.mov (.tmp 102))⟩,
     ⟨(some 3), none, .plain (.mov (.const (.int .i64 0)))⟩])
  .ret)))))))))))))))⟩
/-- (*fettle/fat.Volume).Space -/
def a42 : AFunc := ⟨1, [.tmp 2],
  (.both (.seq [⟨(some 2), none, .plain (.mov (.const (.slice none 0 0)))⟩])
  (.both (.both (.seq [⟨(some 5), none, .plain (.mov (.tmp 0))⟩,
      ⟨(some 6), none, .plain (.eqN false .ptr true (.tmp 5) (.const (.pointer none)))⟩])
   (.cond (.tmp 6)
    (.both (.seq [⟨(some 2), none, .plain (.mov (.const (.slice none 0 0)))⟩])
    .ret)
    .skip))
  (.both (.seq [⟨(some 3), none, .plain (.mov (.const (.slice none 0 0)))⟩])
  (.both (.both (.seq [⟨(some 4), none, .plain (.mov (.const (.int .i64 2)))⟩])
   (.block 0 (.loop (.both (.both (.seq [⟨(some 7), none, .plain (.mov (.tmp 4))⟩,
         ⟨(some 8), none, .plain (.mov (.tmp 0))⟩,
         ⟨(some 9), none, .plain (.nilCheck (.tmp 8))⟩,
         ⟨(some 10), none, .plain (.faddr 8 (.tmp 9))⟩,
         ⟨(some 11), none, .plain (.load none (.tmp 10))⟩,
         ⟨(some 12), none, .plain (.len .sl (.tmp 11))⟩,
         ⟨(some 13), none, .plain (.bin .lss (.tmp 7) (.tmp 12))⟩])
      (.cond (.tmp 13)
       .skip
       (.exit 0)))
     (.both (.block 1 (.both (.seq [⟨(some 16), none, .plain (.mov (.tmp 0))⟩,
          ⟨(some 17), none, .plain (.nilCheck (.tmp 16))⟩,
          ⟨(some 18), none, .plain (.faddr 8 (.tmp 17))⟩,
          ⟨(some 19), none, .plain (.load none (.tmp 18))⟩,
          ⟨(some 20), none, .plain (.mov (.tmp 4))⟩,
          ⟨(some 21), none, .plain (.iaddr none 1 (.tmp 19) (.tmp 20))⟩,
          ⟨(some 22), none, .plain (.load none (.tmp 21))⟩,
          ⟨(some 23), none, .plain (.bin .eql (.tmp 22) (.const (.int .u32 0)))⟩])
       (.cond (.tmp 23)
        (.seq [⟨(some 24), none, .plain (.mov (.tmp 3))⟩,
          ⟨(some 25), none, .plain (.mov (.tmp 0))⟩,
          ⟨(some 26), none, .plain (.nilCheck (.tmp 25))⟩,
          ⟨(some 27), none, .plain (.faddr 0 (.tmp 26))⟩,
          ⟨(some 28), none, .plain (.load (some 8) (.tmp 27))⟩,
          ⟨(some 29), none, .plain (.mov (.tmp 4))⟩,
          ⟨(some 30), none, .call 80 [(.tmp 28), (.tmp 29)]⟩,
          ⟨(some 31), none, .plain (.buildSlice ⟨2, 16, [(.int .i64 0), (.int .i64 0)]⟩ 1 [(0, (.tmp 30))])⟩,
          ⟨(some 32), none, .plain (.append ⟨2, 16, [(.int .i64 0), (.int .i64 0)]⟩ false (.tmp 24) (.tmp 31))⟩,
          ⟨(some 3), none, .plain (.mov (.tmp 32))⟩])
        .skip)))
     (.seq [⟨(some 14), none, .plain (.mov (.tmp 4))⟩,
       ⟨(some 15), none, .plain (.bin .add (.tmp 14) (.const (.int .i64 1)))⟩,
       ⟨(some 4), none, .plain (.mov (.tmp 15))⟩]))))))
  (.both (.seq [⟨(some 33), none, .plain (.mov (.tmp 3))⟩,
     ⟨(some 34), none, .call 81 [(.tmp 33)]⟩,
     ⟨(some 2), none, .plain (.mov (.tmp 34))⟩])
  .ret)))))⟩
/-- (fettle/fat.Boot).Clusters -/
def a44 : AFunc := ⟨1, [.tmp 2],
  (.both (.seq [⟨(some 1), none, .plain (.box (.tmp 0))⟩,
     ⟨(some 2), none, .plain (.mov (.const (.int .i64 0)))⟩])
  (.both (.draw 0 [⟨0, .pure, 0, ⟨(some 3), none, .plain (.faddr 3 (.tmp 1))⟩, [], []⟩,
     ⟨1, .read, 0, ⟨(some 4), none, .plain (.load none (.tmp 3))⟩, [], []⟩,
     ⟨2, .read, 0, ⟨(some 5), none, .plain (.load (some 8) (.tmp 1))⟩, [], []⟩,
     ⟨5, .pure, 0, ⟨(some 8), none, .plain (.faddr 0 (.tmp 1))⟩, [], []⟩,
     ⟨6, .read, 0, ⟨(some 9), none, .plain (.load none (.tmp 8))⟩, [], []⟩,
     ⟨7, .pure, 0, ⟨(some 10), none, .plain (.minmax true (.const (.int .i64 1)) [(.tmp 9)])⟩, [], []⟩,
     ⟨3, .chain, 0, ⟨(some 6), none, .call 60 [(.tmp 5)]⟩, [6, 1], []⟩,
     ⟨4, .pure, 0, ⟨(some 7), none, .plain (.bin .sub (.tmp 4) (.tmp 6))⟩, [], []⟩,
     ⟨8, .pure, 0, ⟨(some 11), none, .plain (.bin .quo (.tmp 7) (.tmp 10))⟩, [], []⟩,
     ⟨9, .pure, 0, ⟨(some 12), none, .plain (.minmax true (.const (.int .i64 0)) [(.tmp 11)])⟩, [], []⟩,
     ⟨10, .pure, 0, ⟨(some 2), none, .plain (.mov (.tmp 12))⟩, [], []⟩])
  .ret))⟩
/-- fettle/fettleref16.Parse -/
def a45 : AFunc := ⟨1, [.cell 2 (some 8), .tmp 3],
  (.both (.seq [⟨(some 2), none, .plain (.alloc [(.int .i64 0), (.int .i64 0), (.int .i64 0), (.int .i64 0), (.int .i64 0), (.int .i64 0), (.int .i64 0), (.int .i64 0)])⟩,
     ⟨(some 3), none, .plain (.mov (.const (.int .i64 0)))⟩])
  (.both (.both (.seq [⟨(some 6), none, .plain (.mov (.tmp 0))⟩,
      ⟨(some 7), none, .plain (.len .sl (.tmp 6))⟩,
      ⟨(some 8), none, .plain (.bin .neq (.tmp 7) (.const (.int .i64 512)))⟩])
   (.cond (.tmp 8)
    (.both (.seq [⟨(some 9), none, .plain (.build (.str [(.int .i64 0), (.int .i64 0), (.int .i64 0), (.int .i64 0), (.int .i64 0), (.int .i64 0), (.int .i64 0), (.int .i64 0)] [(0, 1), (1, 1), (2, 1), (3, 1), (4, 1), (5, 1), (6, 1), (7, 1)]) [])⟩,
       ⟨none, none, .plain (.store 8 (.tmp 2) (.tmp 9))⟩,
       ⟨(some 3), none, .plain (.mov (.const (.int .i64 4)))⟩])
    .ret)
    .skip))
  (.both (.both (.seq [⟨(some 10), none, .plain (.mov (.tmp 0))⟩,
      ⟨(some 11), none, .plain (.iaddr none 1 (.tmp 10) (.const (.int .i64 510)))⟩,
      ⟨(some 12), none, .plain (.load none (.tmp 11))⟩,
      ⟨(some 13), none, .plain (.bin .neq (.tmp 12) (.const (.int .u8 85)))⟩,
      ⟨(some 14), none, .plain (.mov (.tmp 13))⟩,
      ⟨(some 15), (some (14, false)), .plain (.mov (.tmp 0))⟩,
      ⟨(some 16), (some (14, false)), .plain (.iaddr none 1 (.tmp 15) (.const (.int .i64 511)))⟩,
      ⟨(some 17), (some (14, false)), .plain (.load none (.tmp 16))⟩,
      ⟨(some 18), (some (14, false)), .plain (.bin .neq (.tmp 17) (.const (.int .u8 170)))⟩,
      ⟨(some 19), none, .plain (.pick (.tmp 14) (.const (.bool true)) (.tmp 18))⟩,
      ⟨(some 20), none, .plain (.mov (.tmp 19))⟩,
      ⟨(some 21), (some (20, false)), .plain (.mov (.tmp 0))⟩,
      ⟨(some 22), (some (20, false)), .plain (.cut (.sl 1) (.tmp 21) (some (.const (.int .i64 82))) (some (.const (.int .i64 90))) none)⟩,
      ⟨(some 23), (some (20, false)), .plain (.conv .b2s (.tmp 22))⟩,
      ⟨(some 24), (some (20, false)), .plain (.bin .neq (.tmp 23) (.const (.string ⟨#[70, 65, 84, 51, 50, 32, 32, 32]⟩)))⟩,
      ⟨(some 25), none, .plain (.pick (.tmp 20) (.const (.bool true)) (.tmp 24))⟩])
   (.cond (.tmp 25)
    (.both (.seq [⟨(some 26), none, .plain (.build (.str [(.int .i64 0), (.int .i64 0), (.int .i64 0), (.int .i64 0), (.int .i64 0), (.int .i64 0), (.int .i64 0), (.int .i64 0)] [(0, 1), (1, 1), (2, 1), (3, 1), (4, 1), (5, 1), (6, 1), (7, 1)]) [])⟩,
       ⟨none, none, .plain (.store 8 (.tmp 2) (.tmp 26))⟩,
       ⟨(some 3), none, .plain (.mov (.const (.int .i64 10)))⟩])
    .ret)
    .skip))
  (.both (.both (.seq [⟨(some 27), none, .plain (.mov (.tmp 0))⟩,
      ⟨(some 28), none, .call 83 [(.tmp 27), (.const (.int .i64 11)), (.const (.int .i64 2))]⟩,
      ⟨(some 29), none, .plain (.bin .neq (.tmp 28) (.const (.int .i64 512)))⟩,
      ⟨(some 30), none, .plain (.mov (.tmp 29))⟩,
      ⟨(some 31), (some (30, false)), .plain (.mov (.tmp 0))⟩,
      ⟨(some 32), (some (30, false)), .call 83 [(.tmp 31), (.const (.int .i64 17)), (.const (.int .i64 2))]⟩,
      ⟨(some 33), (some (30, false)), .plain (.bin .neq (.tmp 32) (.const (.int .i64 0)))⟩,
      ⟨(some 34), none, .plain (.pick (.tmp 30) (.const (.bool true)) (.tmp 33))⟩,
      ⟨(some 35), none, .plain (.mov (.tmp 34))⟩,
      ⟨(some 36), (some (35, false)), .plain (.mov (.tmp 0))⟩,
      ⟨(some 37), (some (35, false)), .call 83 [(.tmp 36), (.const (.int .i64 19)), (.const (.int .i64 2))]⟩,
      ⟨(some 38), (some (35, false)), .plain (.bin .neq (.tmp 37) (.const (.int .i64 0)))⟩,
      ⟨(some 39), none, .plain (.pick (.tmp 35) (.const (.bool true)) (.tmp 38))⟩,
      ⟨(some 40), none, .plain (.mov (.tmp 39))⟩,
      ⟨(some 41), (some (40, false)), .plain (.mov (.tmp 0))⟩,
      ⟨(some 42), (some (40, false)), .call 83 [(.tmp 41), (.const (.int .i64 22)), (.const (.int .i64 2))]⟩,
      ⟨(some 43), (some (40, false)), .plain (.bin .neq (.tmp 42) (.const (.int .i64 0)))⟩,
      ⟨(some 44), none, .plain (.pick (.tmp 40) (.const (.bool true)) (.tmp 43))⟩,
      ⟨(some 45), none, .plain (.mov (.tmp 44))⟩,
      ⟨(some 46), (some (45, false)), .plain (.mov (.tmp 0))⟩,
      ⟨(some 47), (some (45, false)), .call 83 [(.tmp 46), (.const (.int .i64 40)), (.const (.int .i64 4))]⟩,
      ⟨(some 48), (some (45, false)), .plain (.bin .neq (.tmp 47) (.const (.int .i64 0)))⟩,
      ⟨(some 49), none, .plain (.pick (.tmp 45) (.const (.bool true)) (.tmp 48))⟩])
   (.cond (.tmp 49)
    (.both (.seq [⟨(some 50), none, .plain (.build (.str [(.int .i64 0), (.int .i64 0), (.int .i64 0), (.int .i64 0), (.int .i64 0), (.int .i64 0), (.int .i64 0), (.int .i64 0)] [(0, 1), (1, 1), (2, 1), (3, 1), (4, 1), (5, 1), (6, 1), (7, 1)]) [])⟩,
       ⟨none, none, .plain (.store 8 (.tmp 2) (.tmp 50))⟩,
       ⟨(some 3), none, .plain (.mov (.const (.int .i64 11)))⟩])
    .ret)
    .skip))
  (.both (.seq [⟨(some 51), none, .plain (.mov (.tmp 0))⟩,
     ⟨(some 52), none, .call 83 [(.tmp 51), (.const (.int .i64 13)), (.const (.int .i64 1))]⟩,
     ⟨(some 53), none, .plain (.mov (.tmp 0))⟩,
     ⟨(some 54), none, .call 83 [(.tmp 53), (.const (.int .i64 14)), (.const (.int .i64 2))]⟩,
     ⟨(some 55), none, .plain (.mov (.tmp 0))⟩,
     ⟨(some 56), none, .call 83 [(.tmp 55), (.const (.int .i64 16)), (.const (.int .i64 1))]⟩,
     ⟨(some 57), none, .plain (.mov (.tmp 0))⟩,
     ⟨(some 58), none, .call 83 [(.tmp 57), (.const (.int .i64 32)), (.const (.int .i64 4))]⟩,
     ⟨(some 59), none, .plain (.mov (.tmp 0))⟩,
     ⟨(some 60), none, .call 83 [(.tmp 59), (.const (.int .i64 36)), (.const (.int .i64 4))]⟩,
     ⟨(some 61), none, .plain (.mov (.tmp 0))⟩,
     ⟨(some 62), none, .call 83 [(.tmp 61), (.const (.int .i64 44)), (.const (.int .i64 4))]⟩,
     ⟨(some 63), none, .plain (.mov (.tmp 0))⟩,
     ⟨(some 64), none, .call 83 [(.tmp 63), (.const (.int .i64 48)), (.const (.int .i64 2))]⟩,
     ⟨(some 65), none, .plain (.mov (.tmp 0))⟩,
     ⟨(some 66), none, .call 83 [(.tmp 65), (.const (.int .i64 50)), (.const (.int .i64 2))]⟩,
     ⟨(some 67), none, .plain (.build (.str [(.int .i64 0), (.int .i64 0), (.int .i64 0), (.int .i64 0), (.int .i64 0), (.int .i64 0), (.int .i64 0), (.int .i64 0)] [(0, 1), (1, 1), (2, 1), (3, 1), (4, 1), (5, 1), (6, 1), (7, 1)]) [(0, (.tmp 52)), (1, (.tmp 54)), (2, (.tmp 56)), (3, (.tmp 58)), (4, (.tmp 60)), (5, (.tmp 62)), (6, (.tmp 64)), (7, (.tmp 66))])⟩,
     ⟨(some 4), none, .plain (.alloc [(.int .i64 0), (.int .i64 0), (.int .i64 0), (.int .i64 0), (.int .i64 0), (.int .i64 0), (.int .i64 0), (.int .i64 0)])⟩,
     ⟨none, none, .plain (.store 8 (.tmp 4) (.tmp 67))⟩])
  (.both (.both (.seq [⟨(some 68), none, .plain (.load (some 8) (.tmp 4))⟩,
      ⟨(some 69), none, .call 26 [(.tmp 68)]⟩,
      ⟨(some 5), none, .plain (.mov (.tmp 69))⟩])
   (.both (.seq [⟨(some 70), none, .plain (.mov (.tmp 5))⟩,
      ⟨(some 71), none, .plain (.bin .neq (.tmp 70) (.const (.int .i64 0)))⟩])
   (.cond (.tmp 71)
    (.both (.seq [⟨(some 72), none, .plain (.build (.str [(.int .i64 0), (.int .i64 0), (.int .i64 0), (.int .i64 0), (.int .i64 0), (.int .i64 0), (.int .i64 0), (.int .i64 0)] [(0, 1), (1, 1), (2, 1), (3, 1), (4, 1), (5, 1), (6, 1), (7, 1)]) [])⟩,
       ⟨(some 73), none, .plain (.mov (.tmp 5))⟩,
       ⟨none, none, .plain (.store 8 (.tmp 2) (.tmp 72))⟩,
       ⟨(some 3), none, .plain (.mov (.tmp 73))⟩])
    .ret)
    .skip)))
  (.both (.seq [⟨(some 74), none, .plain (.load (some 8) (.tmp 4))⟩,
     ⟨none, none, .plain (.store 8 (.tmp 2) (.tmp 74))⟩,
     ⟨(some 3), none, .plain (.mov (.const (.int .i64 0)))⟩])
  .ret)))))))⟩
/-- fettle/fettleref01.Bytes -/
def a46 : AFunc := ⟨2, [.tmp 4],
  (.both (.seq [⟨(some 4), none, .plain (.mov (.const (.slice none 0 0)))⟩])
  (.both (.seq [⟨(some 5), none, .plain (.mov (.const (.slice none 0 0)))⟩])
  (.both (.both (.seq [⟨(some 6), none, .plain (.mov (.const (.int .i64 0)))⟩])
   (.block 0 (.loop (.both (.both (.seq [⟨(some 7), none, .plain (.mov (.tmp 6))⟩,
         ⟨(some 8), none, .plain (.mov (.tmp 1))⟩,
         ⟨(some 9), none, .plain (.bin .lss (.tmp 7) (.tmp 8))⟩])
      (.cond (.tmp 9)
       .skip
       (.exit 0)))
     (.both (.block 1 (.both (.seq [⟨(some 12), none, .plain (.mov (.tmp 5))⟩,
          ⟨(some 13), none, .plain (.mov (.tmp 0))⟩,
          ⟨(some 14), none, .plain (.bin .rem (.tmp 13) (.const (.int .u64 256)))⟩,
          ⟨(some 15), none, .plain (.conv (.int .u8) (.tmp 14))⟩,
          ⟨(some 16), none, .plain (.buildSlice ⟨1, 1, [(.int .u8 0)]⟩ 1 [(0, (.tmp 15))])⟩,
          ⟨(some 17), none, .plain (.append ⟨1, 1, [(.int .u8 0)]⟩ false (.tmp 12) (.tmp 16))⟩,
          ⟨(some 5), none, .plain (.mov (.tmp 17))⟩])
       (.seq [⟨(some 18), none, .plain (.mov (.tmp 0))⟩,
         ⟨(some 19), none, .plain (.bin .quo (.tmp 18) (.const (.int .u64 256)))⟩,
         ⟨(some 0), none, .plain (.mov (.tmp 19))⟩])))
     (.seq [⟨(some 10), none, .plain (.mov (.tmp 6))⟩,
       ⟨(some 11), none, .plain (.bin .add (.tmp 10) (.const (.int .i64 1)))⟩,
       ⟨(some 6), none, .plain (.mov (.tmp 11))⟩]))))))
  (.both (.seq [⟨(some 20), none, .plain (.mov (.tmp 5))⟩,
     ⟨(some 4), none, .plain (.mov (.tmp 20))⟩])
  .ret))))⟩
/-- (*fettle/fat.Volume).Chain -/
def a47 : AFunc := ⟨3, [.tmp 6, .tmp 7],
  (.both (.seq [⟨(some 6), none, .plain (.mov (.const (.slice none 0 0)))⟩,
     ⟨(some 7), none, .plain (.mov (.const (.int .i64 0)))⟩])
  (.both (.both (.seq [⟨(some 14), none, .plain (.mov (.tmp 0))⟩,
      ⟨(some 15), none, .plain (.eqN false .ptr true (.tmp 14) (.const (.pointer none)))⟩])
   (.cond (.tmp 15)
    (.both (.seq [⟨(some 6), none, .plain (.mov (.const (.slice none 0 0)))⟩,
       ⟨(some 7), none, .plain (.mov (.const (.int .i64 2)))⟩])
    .ret)
    .skip))
  (.both (.seq [⟨(some 8), none, .plain (.mov (.const (.slice none 0 0)))⟩])
  (.both (.seq [⟨(some 16), none, .plain (.makeMap)⟩,
     ⟨(some 9), none, .plain (.mov (.tmp 16))⟩])
  (.both (.both (.seq [⟨(some 17), none, .plain (.mov (.tmp 1))⟩,
      ⟨(some 10), none, .plain (.mov (.tmp 17))⟩])
   (.block 0 (.loop (.block 1 (.both (.block 2 (.both (.seq [⟨(some 19), none, .plain (.mov (.tmp 10))⟩,
           ⟨(some 20), none, .plain (.bin .lss (.tmp 19) (.const (.int .i64 2)))⟩,
           ⟨(some 21), none, .plain (.mov (.tmp 20))⟩,
           ⟨(some 22), (some (21, false)), .plain (.mov (.tmp 10))⟩,
           ⟨(some 23), (some (21, false)), .plain (.mov (.tmp 0))⟩,
           ⟨(some 24), (some (21, false)), .plain (.nilCheck (.tmp 23))⟩,
           ⟨(some 25), (some (21, false)), .plain (.faddr 8 (.tmp 24))⟩,
           ⟨(some 26), (some (21, false)), .plain (.load none (.tmp 25))⟩,
           ⟨(some 27), (some (21, false)), .plain (.len .sl (.tmp 26))⟩,
           ⟨(some 28), (some (21, false)), .plain (.bin .geq (.tmp 22) (.tmp 27))⟩,
           ⟨(some 29), none, .plain (.pick (.tmp 21) (.const (.bool true)) (.tmp 28))⟩,
           ⟨(some 18), none, .plain (.mov (.tmp 29))⟩])
        (.cond (.tmp 18)
         (.both (.seq [⟨(some 6), none, .plain (.mov (.const (.slice none 0 0)))⟩,
            ⟨(some 7), none, .plain (.mov (.const (.int .i64 4)))⟩])
         .ret)
         (.both (.seq [⟨(some 31), none, .plain (.mov (.tmp 9))⟩,
            ⟨(some 32), none, .plain (.mov (.tmp 10))⟩,
            ⟨(some 33), none, .plain (.lookup ⟨(.int .i64), (.int .i64 0)⟩ false (.tmp 31) (.tmp 32))⟩,
            ⟨(some 34), none, .plain (.bin .gtr (.tmp 33) (.const (.int .i64 0)))⟩,
            ⟨(some 30), none, .plain (.mov (.tmp 34))⟩])
         (.cond (.tmp 30)
          (.both (.seq [⟨(some 6), none, .plain (.mov (.const (.slice none 0 0)))⟩,
             ⟨(some 7), none, .plain (.mov (.const (.int .i64 13)))⟩])
          .ret)
          (.both (.seq [⟨(some 36), none, .plain (.mov (.tmp 2))⟩,
             ⟨(some 37), none, .plain (.mov (.tmp 10))⟩,
             ⟨(some 38), none, .plain (.lookup ⟨(.int .i64), (.int .i64 0)⟩ false (.tmp 36) (.tmp 37))⟩,
             ⟨(some 39), none, .plain (.bin .gtr (.tmp 38) (.const (.int .i64 0)))⟩,
             ⟨(some 35), none, .plain (.mov (.tmp 39))⟩])
          (.cond (.tmp 35)
           (.both (.seq [⟨(some 6), none, .plain (.mov (.const (.slice none 0 0)))⟩,
              ⟨(some 7), none, .plain (.mov (.const (.int .i64 14)))⟩])
           .ret)
           .skip)))))))
      (.both (.seq [⟨(some 40), none, .plain (.mov (.tmp 9))⟩,
         ⟨(some 41), none, .plain (.mov (.tmp 10))⟩,
         ⟨none, none, .plain (.mapPut ⟨(.int .i64), (.int .i64 0)⟩ (.tmp 40) (.tmp 41) (.const (.int .i64 1)))⟩])
      (.both (.seq [⟨(some 42), none, .plain (.mov (.tmp 8))⟩,
         ⟨(some 43), none, .plain (.mov (.tmp 10))⟩,
         ⟨(some 44), none, .plain (.buildSlice ⟨1, 8, [(.int .i64 0)]⟩ 1 [(0, (.tmp 43))])⟩,
         ⟨(some 45), none, .plain (.append ⟨1, 8, [(.int .i64 0)]⟩ false (.tmp 42) (.tmp 44))⟩,
         ⟨(some 8), none, .plain (.mov (.tmp 45))⟩])
      (.both (.seq [⟨(some 46), none, .plain (.mov (.tmp 0))⟩,
         ⟨(some 47), none, .plain (.nilCheck (.tmp 46))⟩,
         ⟨(some 48), none, .plain (.faddr 8 (.tmp 47))⟩,
         ⟨(some 49), none, .plain (.load none (.tmp 48))⟩,
         ⟨(some 50), none, .plain (.mov (.tmp 10))⟩,
         ⟨(some 51), none, .plain (.iaddr none 1 (.tmp 49) (.tmp 50))⟩,
         ⟨(some 52), none, .plain (.load none (.tmp 51))⟩,
         ⟨(some 11), none, .plain (.mov (.tmp 52))⟩])
      (.both (.both (.seq [⟨(some 53), none, .plain (.mov (.tmp 11))⟩,
          ⟨(some 54), none, .plain (.bin .geq (.tmp 53) (.const (.int .u32 268435448)))⟩])
       (.cond (.tmp 54)
        (.exit 0)
        .skip))
      (.both (.both (.seq [⟨(some 55), none, .plain (.mov (.tmp 11))⟩,
          ⟨(some 56), none, .plain (.bin .eql (.tmp 55) (.const (.int .u32 0)))⟩,
          ⟨(some 57), none, .plain (.mov (.tmp 56))⟩,
          ⟨(some 58), (some (57, false)), .plain (.mov (.tmp 11))⟩,
          ⟨(some 59), (some (57, false)), .plain (.bin .eql (.tmp 58) (.const (.int .u32 268435447)))⟩,
          ⟨(some 60), none, .plain (.pick (.tmp 57) (.const (.bool true)) (.tmp 59))⟩])
       (.cond (.tmp 60)
        (.both (.seq [⟨(some 6), none, .plain (.mov (.const (.slice none 0 0)))⟩,
           ⟨(some 7), none, .plain (.mov (.const (.int .i64 11)))⟩])
        .ret)
        .skip))
      (.seq [⟨(some 61), none, .plain (.mov (.tmp 11))⟩,
        ⟨(some 62), none, .plain (.conv (.int .i64) (.tmp 61))⟩,
        ⟨(some 10), none, .plain (.mov (.tmp 62))⟩])))))))))))
  (.both (.both (.seq [⟨(some 63), none, .plain (.mov (.tmp 8))⟩,
      ⟨(some 64), none, .plain (.len .sl (.tmp 63))⟩,
      ⟨(some 65), none, .plain (.mov (.const (.int .i64 0)))⟩])
   (.block 3 (.loop (.both (.seq [⟨(some 66), none, .plain (.bin .lss (.tmp 65) (.tmp 64))⟩])
     (.both (.cond (.tmp 66)
       .skip
       (.exit 3))
     (.both (.block 4 (.both (.seq [⟨(some 67), none, .plain (.iaddr none 1 (.tmp 63) (.tmp 65))⟩,
          ⟨(some 68), none, .plain (.load none (.tmp 67))⟩,
          ⟨(some 13), none, .plain (.mov (.tmp 68))⟩])
       (.both (.seq [⟨(some 69), none, .plain (.mov (.tmp 2))⟩,
          ⟨(some 70), none, .plain (.eqN true .map true (.tmp 69) (.const (.map none)))⟩])
       (.cond (.tmp 70)
        (.seq [⟨(some 71), none, .plain (.mov (.tmp 2))⟩,
          ⟨(some 72), none, .plain (.mov (.tmp 13))⟩,
          ⟨none, none, .plain (.mapPut ⟨(.int .i64), (.int .i64 0)⟩ (.tmp 71) (.tmp 72) (.const (.int .i64 1)))⟩])
        .skip))))
     (.seq [⟨(some 73), none, .plain (.bin .add (.tmp 65) (.const (.int .i64 1)))⟩,
       ⟨(some 65), none, .plain (.mov (.tmp 73))⟩])))))))
  (.both (.seq [⟨(some 74), none, .plain (.mov (.tmp 8))⟩,
     ⟨(some 6), none, .plain (.mov (.tmp 74))⟩,
     ⟨(some 7), none, .plain (.mov (.const (.int .i64 0)))⟩])
  .ret)))))))⟩
/-- (*fettle/fat.Volume).Runs -/
def a52 : AFunc := ⟨3, [.tmp 6],
  (.both (.seq [⟨(some 6), none, .plain (.mov (.const (.slice none 0 0)))⟩])
  (.both (.both (.seq [⟨(some 12), none, .plain (.mov (.tmp 0))⟩,
      ⟨(some 13), none, .plain (.eqN false .ptr true (.tmp 12) (.const (.pointer none)))⟩])
   (.cond (.tmp 13)
    (.both (.seq [⟨(some 6), none, .plain (.mov (.const (.slice none 0 0)))⟩])
    .ret)
    .skip))
  (.both (.seq [⟨(some 7), none, .plain (.mov (.const (.slice none 0 0)))⟩])
  (.both (.both (.seq [⟨(some 14), none, .plain (.mov (.tmp 1))⟩,
      ⟨(some 15), none, .plain (.len .sl (.tmp 14))⟩,
      ⟨(some 16), none, .plain (.mov (.const (.int .i64 0)))⟩])
   (.block 0 (.loop (.both (.seq [⟨(some 17), none, .plain (.bin .lss (.tmp 16) (.tmp 15))⟩])
     (.both (.cond (.tmp 17)
       .skip
       (.exit 0))
     (.both (.block 1 (.both (.seq [⟨(some 18), none, .plain (.iaddr none 1 (.tmp 14) (.tmp 16))⟩,
          ⟨(some 19), none, .plain (.load none (.tmp 18))⟩,
          ⟨(some 9), none, .plain (.mov (.tmp 19))⟩])
       (.both (.seq [⟨(some 20), none, .plain (.mov (.tmp 0))⟩,
          ⟨(some 21), none, .plain (.nilCheck (.tmp 20))⟩,
          ⟨(some 22), none, .plain (.faddr 0 (.tmp 21))⟩,
          ⟨(some 23), none, .plain (.load (some 8) (.tmp 22))⟩,
          ⟨(some 24), none, .plain (.mov (.tmp 9))⟩,
          ⟨(some 25), none, .call 80 [(.tmp 23), (.tmp 24)]⟩,
          ⟨(some 10), none, .plain (.alloc [(.int .i64 0), (.int .i64 0)])⟩,
          ⟨none, none, .plain (.store 2 (.tmp 10) (.tmp 25))⟩])
       (.both (.both (.seq [⟨(some 26), none, .plain (.mov (.tmp 2))⟩,
           ⟨(some 27), none, .plain (.bin .leq (.tmp 26) (.const (.int .i64 0)))⟩])
        (.cond (.tmp 27)
         (.exit 0)
         .skip))
       (.both (.both (.seq [⟨(some 28), none, .plain (.faddr 1 (.tmp 10))⟩,
           ⟨(some 29), none, .plain (.load none (.tmp 28))⟩,
           ⟨(some 30), none, .plain (.faddr 0 (.tmp 10))⟩,
           ⟨(some 31), none, .plain (.load none (.tmp 30))⟩,
           ⟨(some 32), none, .plain (.bin .sub (.tmp 29) (.tmp 31))⟩,
           ⟨(some 33), none, .plain (.mov (.tmp 2))⟩,
           ⟨(some 34), none, .plain (.bin .gtr (.tmp 32) (.tmp 33))⟩])
        (.cond (.tmp 34)
         (.seq [⟨(some 35), none, .plain (.faddr 0 (.tmp 10))⟩,
           ⟨(some 36), none, .plain (.load none (.tmp 35))⟩,
           ⟨(some 37), none, .plain (.mov (.tmp 2))⟩,
           ⟨(some 38), none, .plain (.bin .add (.tmp 36) (.tmp 37))⟩,
           ⟨(some 39), none, .plain (.faddr 1 (.tmp 10))⟩,
           ⟨none, none, .plain (.store 1 (.tmp 39) (.tmp 38))⟩])
         .skip))
       (.both (.seq [⟨(some 40), none, .plain (.mov (.tmp 2))⟩,
          ⟨(some 41), none, .plain (.faddr 1 (.tmp 10))⟩,
          ⟨(some 42), none, .plain (.load none (.tmp 41))⟩,
          ⟨(some 43), none, .plain (.faddr 0 (.tmp 10))⟩,
          ⟨(some 44), none, .plain (.load none (.tmp 43))⟩,
          ⟨(some 45), none, .plain (.bin .sub (.tmp 42) (.tmp 44))⟩,
          ⟨(some 46), none, .plain (.bin .sub (.tmp 40) (.tmp 45))⟩,
          ⟨(some 2), none, .plain (.mov (.tmp 46))⟩])
       (.both (.both (.seq [⟨(some 47), none, .plain (.mov (.tmp 7))⟩,
           ⟨(some 48), none, .plain (.len .sl (.tmp 47))⟩,
           ⟨(some 11), none, .plain (.mov (.tmp 48))⟩])
        (.both (.seq [⟨(some 49), none, .plain (.mov (.tmp 11))⟩,
           ⟨(some 50), none, .plain (.bin .gtr (.tmp 49) (.const (.int .i64 0)))⟩,
           ⟨(some 51), none, .plain (.mov (.tmp 50))⟩,
           ⟨(some 52), (some (51, true)), .plain (.mov (.tmp 7))⟩,
           ⟨(some 53), (some (51, true)), .plain (.mov (.tmp 11))⟩,
           ⟨(some 54), (some (51, true)), .plain (.bin .sub (.tmp 53) (.const (.int .i64 1)))⟩,
           ⟨(some 55), (some (51, true)), .plain (.iaddr none 2 (.tmp 52) (.tmp 54))⟩,
           ⟨(some 56), (some (51, true)), .plain (.faddr 1 (.tmp 55))⟩,
           ⟨(some 57), (some (51, true)), .plain (.load none (.tmp 56))⟩,
           ⟨(some 58), (some (51, true)), .plain (.faddr 0 (.tmp 10))⟩,
           ⟨(some 59), (some (51, true)), .plain (.load none (.tmp 58))⟩,
           ⟨(some 60), (some (51, true)), .plain (.bin .eql (.tmp 57) (.tmp 59))⟩,
           ⟨(some 61), none, .plain (.pick (.tmp 51) (.tmp 60) (.const (.bool false)))⟩])
        (.cond (.tmp 61)
         (.both (.seq [⟨(some 62), none, .plain (.mov (.tmp 7))⟩,
            ⟨(some 63), none, .plain (.mov (.tmp 11))⟩,
            ⟨(some 64), none, .plain (.bin .sub (.tmp 63) (.const (.int .i64 1)))⟩,
            ⟨(some 65), none, .plain (.faddr 1 (.tmp 10))⟩,
            ⟨(some 66), none, .plain (.load none (.tmp 65))⟩,
            ⟨(some 67), none, .plain (.iaddr none 2 (.tmp 62) (.tmp 64))⟩,
            ⟨(some 68), none, .plain (.faddr 1 (.tmp 67))⟩,
            ⟨none, none, .plain (.store 1 (.tmp 68) (.tmp 66))⟩])
         (.exit 1))
         .skip)))
       (.seq [⟨(some 69), none, .plain (.mov (.tmp 7))⟩,
         ⟨(some 70), none, .plain (.load (some 2) (.tmp 10))⟩,
         ⟨(some 71), none, .plain (.buildSlice ⟨2, 16, [(.int .i64 0), (.int .i64 0)]⟩ 1 [(0, (.tmp 70))])⟩,
         ⟨(some 72), none, .plain (.append ⟨2, 16, [(.int .i64 0), (.int .i64 0)]⟩ false (.tmp 69) (.tmp 71))⟩,
         ⟨(some 7), none, .plain (.mov (.tmp 72))⟩]))))))))
     (.seq [⟨(some 73), none, .plain (.bin .add (.tmp 16) (.const (.int .i64 1)))⟩,
       ⟨(some 16), none, .plain (.mov (.tmp 73))⟩])))))))
  (.both (.seq [⟨(some 74), none, .plain (.mov (.tmp 7))⟩,
     ⟨(some 6), none, .plain (.mov (.tmp 74))⟩])
  .ret)))))⟩
/-- (fettle/fat.Boot).Data -/
def a60 : AFunc := ⟨1, [.tmp 2],
  (.both (.seq [⟨(some 1), none, .plain (.box (.tmp 0))⟩,
     ⟨(some 2), none, .plain (.mov (.const (.int .i64 0)))⟩])
  (.both (.seq [⟨(some 3), none, .plain (.faddr 1 (.tmp 1))⟩,
     ⟨(some 4), none, .plain (.load none (.tmp 3))⟩,
     ⟨(some 5), none, .plain (.faddr 2 (.tmp 1))⟩,
     ⟨(some 6), none, .plain (.load none (.tmp 5))⟩,
     ⟨(some 7), none, .plain (.faddr 4 (.tmp 1))⟩,
     ⟨(some 8), none, .plain (.load none (.tmp 7))⟩,
     ⟨(some 9), none, .plain (.bin .mul (.tmp 6) (.tmp 8))⟩,
     ⟨(some 10), none, .plain (.bin .add (.tmp 4) (.tmp 9))⟩,
     ⟨(some 2), none, .plain (.mov (.tmp 10))⟩])
  .ret))⟩
/-- (fettle/fat.Boot).Check -/
def a61 : AFunc := ⟨1, [.tmp 2],
  (.both (.seq [⟨(some 1), none, .plain (.box (.tmp 0))⟩,
     ⟨(some 2), none, .plain (.mov (.const (.int .i64 0)))⟩])
  (.both (.block 0 (.both (.seq [⟨(some 4), none, .plain (.faddr 0 (.tmp 1))⟩,
       ⟨(some 5), none, .plain (.load none (.tmp 4))⟩,
       ⟨(some 6), none, .plain (.bin .lss (.tmp 5) (.const (.int .i64 1)))⟩,
       ⟨(some 7), none, .plain (.mov (.tmp 6))⟩,
       ⟨(some 8), (some (7, false)), .plain (.faddr 0 (.tmp 1))⟩,
       ⟨(some 9), (some (7, false)), .plain (.load none (.tmp 8))⟩,
       ⟨(some 10), (some (7, false)), .plain (.bin .gtr (.tmp 9) (.const (.int .i64 8)))⟩,
       ⟨(some 11), none, .plain (.pick (.tmp 7) (.const (.bool true)) (.tmp 10))⟩,
       ⟨(some 12), none, .plain (.mov (.tmp 11))⟩,
       ⟨(some 13), (some (12, false)), .plain (.faddr 0 (.tmp 1))⟩,
       ⟨(some 14), (some (12, false)), .plain (.load none (.tmp 13))⟩,
       ⟨(some 15), (some (12, false)), .plain (.faddr 0 (.tmp 1))⟩,
       ⟨(some 16), (some (12, false)), .plain (.load none (.tmp 15))⟩,
       ⟨(some 17), (some (12, false)), .plain (.bin .sub (.tmp 16) (.const (.int .i64 1)))⟩,
       ⟨(some 18), (some (12, false)), .plain (.bin .and (.tmp 14) (.tmp 17))⟩,
       ⟨(some 19), (some (12, false)), .plain (.bin .neq (.tmp 18) (.const (.int .i64 0)))⟩,
       ⟨(some 20), none, .plain (.pick (.tmp 12) (.const (.bool true)) (.tmp 19))⟩,
       ⟨(some 21), none, .plain (.mov (.tmp 20))⟩,
       ⟨(some 22), (some (21, false)), .plain (.faddr 2 (.tmp 1))⟩,
       ⟨(some 23), (some (21, false)), .plain (.load none (.tmp 22))⟩,
       ⟨(some 24), (some (21, false)), .plain (.bin .lss (.tmp 23) (.const (.int .i64 1)))⟩,
       ⟨(some 25), none, .plain (.pick (.tmp 21) (.const (.bool true)) (.tmp 24))⟩,
       ⟨(some 26), none, .plain (.mov (.tmp 25))⟩,
       ⟨(some 27), (some (26, false)), .plain (.faddr 2 (.tmp 1))⟩,
       ⟨(some 28), (some (26, false)), .plain (.load none (.tmp 27))⟩,
       ⟨(some 29), (some (26, false)), .plain (.bin .gtr (.tmp 28) (.const (.int .i64 2)))⟩,
       ⟨(some 30), none, .plain (.pick (.tmp 26) (.const (.bool true)) (.tmp 29))⟩,
       ⟨(some 3), none, .plain (.mov (.tmp 30))⟩])
    (.cond (.tmp 3)
     (.both (.seq [⟨(some 2), none, .plain (.mov (.const (.int .i64 11)))⟩])
     .ret)
     (.both (.seq [⟨(some 32), none, .plain (.faddr 3 (.tmp 1))⟩,
        ⟨(some 33), none, .plain (.load none (.tmp 32))⟩,
        ⟨(some 34), none, .plain (.bin .lss (.tmp 33) (.const (.int .i64 1)))⟩,
        ⟨(some 35), none, .plain (.mov (.tmp 34))⟩,
        ⟨(some 36), (some (35, false)), .plain (.faddr 3 (.tmp 1))⟩,
        ⟨(some 37), (some (35, false)), .plain (.load none (.tmp 36))⟩,
        ⟨(some 38), (some (35, false)), .plain (.bin .gtr (.tmp 37) (.const (.int .i64 32768)))⟩,
        ⟨(some 39), none, .plain (.pick (.tmp 35) (.const (.bool true)) (.tmp 38))⟩,
        ⟨(some 40), none, .plain (.mov (.tmp 39))⟩,
        ⟨(some 41), (some (40, false)), .plain (.faddr 4 (.tmp 1))⟩,
        ⟨(some 42), (some (40, false)), .plain (.load none (.tmp 41))⟩,
        ⟨(some 43), (some (40, false)), .plain (.bin .lss (.tmp 42) (.const (.int .i64 1)))⟩,
        ⟨(some 44), none, .plain (.pick (.tmp 40) (.const (.bool true)) (.tmp 43))⟩,
        ⟨(some 45), none, .plain (.mov (.tmp 44))⟩,
        ⟨(some 46), (some (45, false)), .plain (.faddr 4 (.tmp 1))⟩,
        ⟨(some 47), (some (45, false)), .plain (.load none (.tmp 46))⟩,
        ⟨(some 48), (some (45, false)), .plain (.faddr 3 (.tmp 1))⟩,
        ⟨(some 49), (some (45, false)), .plain (.load none (.tmp 48))⟩,
        ⟨(some 50), (some (45, false)), .plain (.bin .gtr (.tmp 47) (.tmp 49))⟩,
        ⟨(some 51), none, .plain (.pick (.tmp 45) (.const (.bool true)) (.tmp 50))⟩,
        ⟨(some 52), none, .plain (.mov (.tmp 51))⟩,
        ⟨(some 53), (some (52, false)), .plain (.faddr 1 (.tmp 1))⟩,
        ⟨(some 54), (some (52, false)), .plain (.load none (.tmp 53))⟩,
        ⟨(some 55), (some (52, false)), .plain (.bin .lss (.tmp 54) (.const (.int .i64 2)))⟩,
        ⟨(some 56), none, .plain (.pick (.tmp 52) (.const (.bool true)) (.tmp 55))⟩,
        ⟨(some 57), none, .plain (.mov (.tmp 56))⟩,
        ⟨(some 58), (some (57, false)), .plain (.faddr 1 (.tmp 1))⟩,
        ⟨(some 59), (some (57, false)), .plain (.load none (.tmp 58))⟩,
        ⟨(some 60), (some (57, false)), .plain (.bin .gtr (.tmp 59) (.const (.int .i64 64)))⟩,
        ⟨(some 61), none, .plain (.pick (.tmp 57) (.const (.bool true)) (.tmp 60))⟩,
        ⟨(some 31), none, .plain (.mov (.tmp 61))⟩])
     (.cond (.tmp 31)
      (.both (.seq [⟨(some 2), none, .plain (.mov (.const (.int .i64 11)))⟩])
      .ret)
      (.both (.seq [⟨(some 63), none, .plain (.faddr 6 (.tmp 1))⟩,
         ⟨(some 64), none, .plain (.load none (.tmp 63))⟩,
         ⟨(some 65), none, .plain (.bin .lss (.tmp 64) (.const (.int .i64 1)))⟩,
         ⟨(some 66), none, .plain (.mov (.tmp 65))⟩,
         ⟨(some 67), (some (66, false)), .plain (.faddr 6 (.tmp 1))⟩,
         ⟨(some 68), (some (66, false)), .plain (.load none (.tmp 67))⟩,
         ⟨(some 69), (some (66, false)), .plain (.faddr 1 (.tmp 1))⟩,
         ⟨(some 70), (some (66, false)), .plain (.load none (.tmp 69))⟩,
         ⟨(some 71), (some (66, false)), .plain (.bin .geq (.tmp 68) (.tmp 70))⟩,
         ⟨(some 72), none, .plain (.pick (.tmp 66) (.const (.bool true)) (.tmp 71))⟩,
         ⟨(some 73), none, .plain (.mov (.tmp 72))⟩,
         ⟨(some 74), (some (73, false)), .plain (.faddr 7 (.tmp 1))⟩,
         ⟨(some 75), (some (73, false)), .plain (.load none (.tmp 74))⟩,
         ⟨(some 76), (some (73, false)), .plain (.bin .lss (.tmp 75) (.const (.int .i64 0)))⟩,
         ⟨(some 77), none, .plain (.pick (.tmp 73) (.const (.bool true)) (.tmp 76))⟩,
         ⟨(some 78), none, .plain (.mov (.tmp 77))⟩,
         ⟨(some 79), (some (78, false)), .plain (.faddr 7 (.tmp 1))⟩,
         ⟨(some 80), (some (78, false)), .plain (.load none (.tmp 79))⟩,
         ⟨(some 81), (some (78, false)), .plain (.faddr 1 (.tmp 1))⟩,
         ⟨(some 82), (some (78, false)), .plain (.load none (.tmp 81))⟩,
         ⟨(some 83), (some (78, false)), .plain (.bin .geq (.tmp 80) (.tmp 82))⟩,
         ⟨(some 84), none, .plain (.pick (.tmp 78) (.const (.bool true)) (.tmp 83))⟩,
         ⟨(some 85), none, .plain (.mov (.tmp 84))⟩,
         ⟨(some 86), (some (85, false)), .plain (.faddr 7 (.tmp 1))⟩,
         ⟨(some 87), (some (85, false)), .plain (.load none (.tmp 86))⟩,
         ⟨(some 88), (some (85, false)), .plain (.faddr 6 (.tmp 1))⟩,
         ⟨(some 89), (some (85, false)), .plain (.load none (.tmp 88))⟩,
         ⟨(some 90), (some (85, false)), .plain (.bin .eql (.tmp 87) (.tmp 89))⟩,
         ⟨(some 91), none, .plain (.pick (.tmp 85) (.const (.bool true)) (.tmp 90))⟩,
         ⟨(some 62), none, .plain (.mov (.tmp 91))⟩])
      (.cond (.tmp 62)
       (.both (.seq [⟨(some 2), none, .plain (.mov (.const (.int .i64 11)))⟩])
       .ret)
       (.both (.draw 0 [⟨0, .read, 0, ⟨(some 93), none, .plain (.load (some 8) (.tmp 1))⟩, [], []⟩,
          ⟨2, .pure, 0, ⟨(some 95), none, .plain (.faddr 3 (.tmp 1))⟩, [], []⟩,
          ⟨3, .read, 0, ⟨(some 96), none, .plain (.load none (.tmp 95))⟩, [], []⟩,
          ⟨1, .chain, 0, ⟨(some 94), none, .call 60 [(.tmp 93)]⟩, [3], []⟩,
          ⟨4, .pure, 0, ⟨(some 97), none, .plain (.bin .geq (.tmp 94) (.tmp 96))⟩, [], []⟩,
          ⟨5, .pure, 0, ⟨(some 98), none, .plain (.mov (.tmp 97))⟩, [], []⟩,
          ⟨6, .read, 0, ⟨(some 99), (some (98, false)), .plain (.load (some 8) (.tmp 1))⟩, [], []⟩,
          ⟨7, .chain, 0, ⟨(some 100), (some (98, false)), .call 44 [(.tmp 99)]⟩, [], []⟩,
          ⟨8, .pure, 0, ⟨(some 101), (some (98, false)), .plain (.bin .lss (.tmp 100) (.const (.int .i64 1)))⟩, [], []⟩,
          ⟨9, .pure, 0, ⟨(some 102), none, .plain (.pick (.tmp 98) (.const (.bool true)) (.tmp 101))⟩, [], []⟩,
          ⟨10, .pure, 0, ⟨(some 92), none, .plain (.mov (.tmp 102))⟩, [], []⟩])
       (.cond (.tmp 92)
        (.both (.seq [⟨(some 2), none, .plain (.mov (.const (.int .i64 4)))⟩])
        .ret)
        (.both (.draw 0 [⟨0, .read, 0, ⟨(some 104), none, .plain (.load (some 8) (.tmp 1))⟩, [], []⟩,
           ⟨2, .pure, 0, ⟨(some 106), none, .plain (.faddr 4 (.tmp 1))⟩, [], []⟩,
           ⟨3, .read, 0, ⟨(some 107), none, .plain (.load none (.tmp 106))⟩, [], []⟩,
           ⟨4, .pure, 0, ⟨(some 108), none, .plain (.bin .mul (.tmp 107) (.const (.int .i64 128)))⟩, [], []⟩,
           ⟨5, .pure, 0, ⟨(some 109), none, .plain (.bin .sub (.tmp 108) (.const (.int .i64 2)))⟩, [], []⟩,
           ⟨1, .chain, 0, ⟨(some 105), none, .call 44 [(.tmp 104)]⟩, [3], []⟩,
           ⟨6, .pure, 0, ⟨(some 110), none, .plain (.bin .gtr (.tmp 105) (.tmp 109))⟩, [], []⟩,
           ⟨7, .pure, 0, ⟨(some 103), none, .plain (.mov (.tmp 110))⟩, [], []⟩])
        (.cond (.tmp 103)
         (.both (.seq [⟨(some 2), none, .plain (.mov (.const (.int .i64 20)))⟩])
         .ret)
         (.both (.draw 0 [⟨0, .pure, 0, ⟨(some 112), none, .plain (.faddr 5 (.tmp 1))⟩, [], []⟩,
            ⟨1, .read, 0, ⟨(some 113), none, .plain (.load none (.tmp 112))⟩, [], []⟩,
            ⟨2, .pure, 0, ⟨(some 114), none, .plain (.bin .lss (.tmp 113) (.const (.int .i64 2)))⟩, [], []⟩,
            ⟨3, .pure, 0, ⟨(some 115), none, .plain (.mov (.tmp 114))⟩, [], []⟩,
            ⟨4, .pure, 0, ⟨(some 116), (some (115, false)), .plain (.faddr 5 (.tmp 1))⟩, [], []⟩,
            ⟨5, .read, 0, ⟨(some 117), (some (115, false)), .plain (.load none (.tmp 116))⟩, [], []⟩,
            ⟨6, .read, 0, ⟨(some 118), (some (115, false)), .plain (.load (some 8) (.tmp 1))⟩, [], []⟩,
            ⟨7, .chain, 0, ⟨(some 119), (some (115, false)), .call 44 [(.tmp 118)]⟩, [5], []⟩,
            ⟨8, .pure, 0, ⟨(some 120), (some (115, false)), .plain (.bin .add (.tmp 119) (.const (.int .i64 1)))⟩, [], []⟩,
            ⟨9, .pure, 0, ⟨(some 121), (some (115, false)), .plain (.bin .gtr (.tmp 117) (.tmp 120))⟩, [], []⟩,
            ⟨10, .pure, 0, ⟨(some 122), none, .plain (.pick (.tmp 115) (.const (.bool true)) (.tmp 121))⟩, [], []⟩,
            ⟨11, .pure, 0, ⟨(some 111), none, .plain (.mov (.tmp 122))⟩, [], []⟩])
         (.cond (.tmp 111)
          (.both (.seq [⟨(some 2), none, .plain (.mov (.const (.int .i64 4)))⟩])
          .ret)
          .skip)))))))))))))
  (.both (.seq [⟨(some 2), none, .plain (.mov (.const (.int .i64 0)))⟩])
  .ret)))⟩
/-- fettle/octet.Put16 -/
def a62 : AFunc := ⟨3, [.tmp 6],
  (.both (.seq [⟨(some 6), none, .plain (.mov (.const (.bool false)))⟩])
  (.both (.seq [⟨(some 7), none, .plain (.mov (.tmp 0))⟩,
     ⟨(some 8), none, .plain (.mov (.tmp 1))⟩,
     ⟨(some 9), none, .plain (.mov (.tmp 2))⟩,
     ⟨(some 10), none, .call 88 [(.tmp 7), (.tmp 8), (.const (.int .i64 2)), (.tmp 9)]⟩,
     ⟨(some 6), none, .plain (.mov (.tmp 10))⟩])
  .ret))⟩
/-- fettle/octet.Put32 -/
def a63 : AFunc := ⟨3, [.tmp 6],
  (.both (.seq [⟨(some 6), none, .plain (.mov (.const (.bool false)))⟩])
  (.both (.seq [⟨(some 7), none, .plain (.mov (.tmp 0))⟩,
     ⟨(some 8), none, .plain (.mov (.tmp 1))⟩,
     ⟨(some 9), none, .plain (.mov (.tmp 2))⟩,
     ⟨(some 10), none, .call 89 [(.tmp 7), (.tmp 8), (.const (.int .i64 4)), (.tmp 9)]⟩,
     ⟨(some 6), none, .plain (.mov (.tmp 10))⟩])
  .ret))⟩
/-- fettle/octet.Patch -/
def a64 : AFunc := ⟨3, [.tmp 6],
  (.both (.seq [⟨(some 6), none, .plain (.mov (.const (.bool false)))⟩])
  (.both (.both (.seq [⟨(some 7), none, .plain (.mov (.tmp 0))⟩,
      ⟨(some 8), none, .plain (.mov (.tmp 1))⟩,
      ⟨(some 9), none, .plain (.mov (.tmp 2))⟩,
      ⟨(some 10), none, .plain (.len .sl (.tmp 9))⟩,
      ⟨(some 11), none, .call 90 [(.tmp 7), (.tmp 8), (.tmp 10)]⟩,
      ⟨(some 12), none, .plain (.un .not (.tmp 11))⟩])
   (.cond (.tmp 12)
    (.both (.seq [⟨(some 6), none, .plain (.mov (.const (.bool false)))⟩])
    .ret)
    .skip))
  (.both (.seq [⟨(some 13), none, .plain (.mov (.tmp 0))⟩,
     ⟨(some 14), none, .plain (.mov (.tmp 1))⟩,
     ⟨(some 15), none, .plain (.cut (.sl 1) (.tmp 13) (some (.tmp 14)) none none)⟩,
     ⟨(some 16), none, .plain (.mov (.tmp 2))⟩,
     ⟨(some 17), none, .plain (.copy 1 (.tmp 15) (.tmp 16))⟩])
  (.both (.seq [⟨(some 6), none, .plain (.mov (.const (.bool true)))⟩])
  .ret))))⟩
/-- (fettle/fettleref16.Boot).Data -/
def a65 : AFunc := ⟨1, [.tmp 2],
  (.both (.seq [⟨(some 1), none, .plain (.box (.tmp 0))⟩,
     ⟨(some 2), none, .plain (.mov (.const (.int .i64 0)))⟩])
  (.both (.seq [⟨(some 3), none, .plain (.faddr 1 (.tmp 1))⟩,
     ⟨(some 4), none, .plain (.load none (.tmp 3))⟩,
     ⟨(some 5), none, .plain (.faddr 2 (.tmp 1))⟩,
     ⟨(some 6), none, .plain (.load none (.tmp 5))⟩,
     ⟨(some 7), none, .plain (.faddr 4 (.tmp 1))⟩,
     ⟨(some 8), none, .plain (.load none (.tmp 7))⟩,
     ⟨(some 9), none, .plain (.bin .mul (.tmp 6) (.tmp 8))⟩,
     ⟨(some 10), none, .plain (.bin .add (.tmp 4) (.tmp 9))⟩,
     ⟨(some 2), none, .plain (.mov (.tmp 10))⟩])
  .ret))⟩
/-- (fettle/fettleref16.Boot).Clusters -/
def a66 : AFunc := ⟨1, [.tmp 2],
  (.both (.seq [⟨(some 1), none, .plain (.box (.tmp 0))⟩,
     ⟨(some 2), none, .plain (.mov (.const (.int .i64 0)))⟩])
  (.both (.seq [⟨(some 5), none, .plain (.faddr 0 (.tmp 1))⟩,
     ⟨(some 6), none, .plain (.load none (.tmp 5))⟩,
     ⟨(some 3), none, .plain (.mov (.tmp 6))⟩])
  (.both (.both (.seq [⟨(some 7), none, .plain (.mov (.tmp 3))⟩,
      ⟨(some 8), none, .plain (.bin .lss (.tmp 7) (.const (.int .i64 1)))⟩])
   (.cond (.tmp 8)
    (.seq [⟨(some 3), none, .plain (.mov (.const (.int .i64 1)))⟩])
    .skip))
  (.both (.draw 0 [⟨0, .pure, 0, ⟨(some 9), none, .plain (.faddr 3 (.tmp 1))⟩, [], []⟩,
     ⟨1, .read, 0, ⟨(some 10), none, .plain (.load none (.tmp 9))⟩, [], []⟩,
     ⟨2, .read, 0, ⟨(some 11), none, .plain (.load (some 8) (.tmp 1))⟩, [], []⟩,
     ⟨5, .pure, 0, ⟨(some 14), none, .plain (.mov (.tmp 3))⟩, [], []⟩,
     ⟨3, .chain, 0, ⟨(some 12), none, .call 65 [(.tmp 11)]⟩, [1], []⟩,
     ⟨4, .pure, 0, ⟨(some 13), none, .plain (.bin .sub (.tmp 10) (.tmp 12))⟩, [], []⟩,
     ⟨6, .pure, 0, ⟨(some 15), none, .plain (.bin .quo (.tmp 13) (.tmp 14))⟩, [], []⟩,
     ⟨7, .pure, 0, ⟨(some 4), none, .plain (.mov (.tmp 15))⟩, [], []⟩])
  (.both (.both (.seq [⟨(some 16), none, .plain (.mov (.tmp 4))⟩,
      ⟨(some 17), none, .plain (.bin .lss (.tmp 16) (.const (.int .i64 0)))⟩])
   (.cond (.tmp 17)
    (.both (.seq [⟨(some 2), none, .plain (.mov (.const (.int .i64 0)))⟩])
    .ret)
    .skip))
  (.both (.seq [⟨(some 18), none, .plain (.mov (.tmp 4))⟩,
     ⟨(some 2), none, .plain (.mov (.tmp 18))⟩])
  .ret))))))⟩
/-- fettle/octet.U16 -/
def a67 : AFunc := ⟨2, [.tmp 4, .tmp 5],
  (.both (.seq [⟨(some 4), none, .plain (.mov (.const (.int .u16 0)))⟩,
     ⟨(some 5), none, .plain (.mov (.const (.bool false)))⟩])
  (.both (.seq [⟨(some 6), none, .plain (.mov (.tmp 0))⟩,
     ⟨(some 7), none, .plain (.mov (.tmp 1))⟩,
     ⟨(some 8), none, .call 91 [(.tmp 6), (.tmp 7), (.const (.int .i64 2))]⟩,
     ⟨(some 9), none, .plain (.extract (.tmp 8) 0)⟩,
     ⟨(some 10), none, .plain (.extract (.tmp 8) 1)⟩,
     ⟨(some 4), none, .plain (.mov (.tmp 9))⟩,
     ⟨(some 5), none, .plain (.mov (.tmp 10))⟩])
  .ret))⟩
/-- fettle/octet.U32 -/
def a68 : AFunc := ⟨2, [.tmp 4, .tmp 5],
  (.both (.seq [⟨(some 4), none, .plain (.mov (.const (.int .u32 0)))⟩,
     ⟨(some 5), none, .plain (.mov (.const (.bool false)))⟩])
  (.both (.seq [⟨(some 6), none, .plain (.mov (.tmp 0))⟩,
     ⟨(some 7), none, .plain (.mov (.tmp 1))⟩,
     ⟨(some 8), none, .call 92 [(.tmp 6), (.tmp 7), (.const (.int .i64 4))]⟩,
     ⟨(some 9), none, .plain (.extract (.tmp 8) 0)⟩,
     ⟨(some 10), none, .plain (.extract (.tmp 8) 1)⟩,
     ⟨(some 4), none, .plain (.mov (.tmp 9))⟩,
     ⟨(some 5), none, .plain (.mov (.tmp 10))⟩])
  .ret))⟩
/-- (*fettle/fat.Volume).table -/
def a78 : AFunc := ⟨2, [.tmp 4],
  (.both (.seq [⟨(some 4), none, .plain (.mov (.const (.int .i64 0)))⟩])
  (.both (.seq [⟨(some 13), none, .plain (.mov (.tmp 0))⟩,
     ⟨(some 14), none, .plain (.nilCheck (.tmp 13))⟩,
     ⟨(some 15), none, .plain (.faddr 0 (.tmp 14))⟩,
     ⟨(some 16), none, .plain (.faddr 4 (.tmp 15))⟩,
     ⟨(some 17), none, .plain (.load none (.tmp 16))⟩,
     ⟨(some 18), none, .plain (.bin .mul (.tmp 17) (.const (.int .i64 512)))⟩,
     ⟨(some 5), none, .plain (.mov (.tmp 18))⟩])
  (.both (.draw 0 [⟨0, .pure, 0, ⟨(some 20), none, .plain (.mov (.tmp 1))⟩, [], []⟩,
     ⟨1, .pure, 0, ⟨(some 21), none, .plain (.mov (.tmp 0))⟩, [], []⟩,
     ⟨2, .pure, 0, ⟨(some 22), none, .plain (.nilCheck (.tmp 21))⟩, [], []⟩,
     ⟨3, .pure, 0, ⟨(some 23), none, .plain (.faddr 0 (.tmp 22))⟩, [], []⟩,
     ⟨4, .pure, 0, ⟨(some 24), none, .plain (.faddr 1 (.tmp 23))⟩, [], []⟩,
     ⟨5, .read, 0, ⟨(some 25), none, .plain (.load none (.tmp 24))⟩, [], []⟩,
     ⟨6, .pure, 0, ⟨(some 26), none, .plain (.bin .mul (.tmp 25) (.const (.int .i64 512)))⟩, [], []⟩,
     ⟨7, .pure, 0, ⟨(some 27), none, .plain (.mov (.tmp 5))⟩, [], []⟩,
     ⟨8, .pure, 0, ⟨(some 28), none, .plain (.mkfunc (.method "Read") [(.tmp 20)] [])⟩, [], []⟩,
     ⟨9, .chain, 0, ⟨(some 29), none, .nilM [(74, 151), (82, 153)] "Read" (.tmp 28)⟩, [5], []⟩,
     ⟨10, .pure, 0, ⟨(some 30), none, .plain (.mov (.tmp 20))⟩, [], []⟩,
     ⟨11, .chain, 0, ⟨(some 31), none, .invoke (.tmp 30) [(74, 151), (82, 153)] [(.tmp 26), (.tmp 27)]⟩, [], []⟩,
     ⟨12, .pure, 0, ⟨(some 19), none, .plain (.mov (.tmp 31))⟩, [], []⟩,
     ⟨13, .pure, 0, ⟨(some 32), none, .plain (.extract (.tmp 19) 0)⟩, [], []⟩,
     ⟨14, .pure, 0, ⟨(some 33), none, .plain (.extract (.tmp 19) 1)⟩, [], []⟩,
     ⟨15, .pure, 0, ⟨(some 6), none, .plain (.mov (.tmp 32))⟩, [], []⟩,
     ⟨16, .pure, 0, ⟨(some 7), none, .plain (.mov (.tmp 33))⟩, [], []⟩])
  (.both (.both (.seq [⟨(some 34), none, .plain (.mov (.tmp 7))⟩,
      ⟨(some 35), none, .plain (.bin .neq (.tmp 34) (.const (.int .i64 0)))⟩])
   (.cond (.tmp 35)
    (.both (.seq [⟨(some 36), none, .plain (.mov (.tmp 7))⟩,
       ⟨(some 4), none, .plain (.mov (.tmp 36))⟩])
    .ret)
    .skip))
  (.both (.both (.seq [⟨(some 37), none, .plain (.mov (.tmp 0))⟩,
      ⟨(some 38), none, .plain (.nilCheck (.tmp 37))⟩,
      ⟨(some 39), none, .plain (.faddr 0 (.tmp 38))⟩,
      ⟨(some 40), none, .plain (.faddr 2 (.tmp 39))⟩,
      ⟨(some 41), none, .plain (.load none (.tmp 40))⟩,
      ⟨(some 42), none, .plain (.bin .eql (.tmp 41) (.const (.int .i64 2)))⟩])
   (.cond (.tmp 42)
    (.both (.draw 0 [⟨0, .pure, 0, ⟨(some 44), none, .plain (.mov (.tmp 1))⟩, [], []⟩,
       ⟨1, .pure, 0, ⟨(some 45), none, .plain (.mov (.tmp 0))⟩, [], []⟩,
       ⟨2, .pure, 0, ⟨(some 46), none, .plain (.nilCheck (.tmp 45))⟩, [], []⟩,
       ⟨3, .pure, 0, ⟨(some 47), none, .plain (.faddr 0 (.tmp 46))⟩, [], []⟩,
       ⟨4, .pure, 0, ⟨(some 48), none, .plain (.faddr 1 (.tmp 47))⟩, [], []⟩,
       ⟨5, .read, 0, ⟨(some 49), none, .plain (.load none (.tmp 48))⟩, [], []⟩,
       ⟨6, .pure, 0, ⟨(some 50), none, .plain (.bin .mul (.tmp 49) (.const (.int .i64 512)))⟩, [], []⟩,
       ⟨7, .pure, 0, ⟨(some 51), none, .plain (.mov (.tmp 5))⟩, [], []⟩,
       ⟨8, .pure, 0, ⟨(some 52), none, .plain (.bin .add (.tmp 50) (.tmp 51))⟩, [], []⟩,
       ⟨9, .pure, 0, ⟨(some 53), none, .plain (.mov (.tmp 5))⟩, [], []⟩,
       ⟨10, .pure, 0, ⟨(some 54), none, .plain (.mkfunc (.method "Read") [(.tmp 44)] [])⟩, [], []⟩,
       ⟨11, .chain, 0, ⟨(some 55), none, .nilM [(74, 151), (82, 153)] "Read" (.tmp 54)⟩, [5], []⟩,
       ⟨12, .pure, 0, ⟨(some 56), none, .plain (.mov (.tmp 44))⟩, [], []⟩,
       ⟨13, .chain, 0, ⟨(some 57), none, .invoke (.tmp 56) [(74, 151), (82, 153)] [(.tmp 52), (.tmp 53)]⟩, [], []⟩,
       ⟨14, .pure, 0, ⟨(some 43), none, .plain (.mov (.tmp 57))⟩, [], []⟩,
       ⟨15, .pure, 0, ⟨(some 58), none, .plain (.extract (.tmp 43) 0)⟩, [], []⟩,
       ⟨16, .pure, 0, ⟨(some 59), none, .plain (.extract (.tmp 43) 1)⟩, [], []⟩,
       ⟨17, .pure, 0, ⟨(some 8), none, .plain (.mov (.tmp 58))⟩, [], []⟩,
       ⟨18, .pure, 0, ⟨(some 9), none, .plain (.mov (.tmp 59))⟩, [], []⟩])
    (.both (.both (.seq [⟨(some 60), none, .plain (.mov (.tmp 9))⟩,
        ⟨(some 61), none, .plain (.bin .neq (.tmp 60) (.const (.int .i64 0)))⟩])
     (.cond (.tmp 61)
      (.both (.seq [⟨(some 62), none, .plain (.mov (.tmp 9))⟩,
         ⟨(some 4), none, .plain (.mov (.tmp 62))⟩])
      .ret)
      .skip))
    (.both (.seq [⟨(some 63), none, .plain (.mov (.tmp 6))⟩,
       ⟨(some 64), none, .plain (.conv .b2s (.tmp 63))⟩,
       ⟨(some 65), none, .plain (.mov (.tmp 8))⟩,
       ⟨(some 66), none, .plain (.conv .b2s (.tmp 65))⟩,
       ⟨(some 67), none, .plain (.bin .neq (.tmp 64) (.tmp 66))⟩])
    (.cond (.tmp 67)
     (.both (.seq [⟨(some 4), none, .plain (.mov (.const (.int .i64 11)))⟩])
     .ret)
     .skip))))
    .skip))
  (.both (.seq [⟨(some 68), none, .plain (.mov (.tmp 0))⟩,
     ⟨(some 69), none, .plain (.mov (.tmp 0))⟩,
     ⟨(some 70), none, .plain (.nilCheck (.tmp 69))⟩,
     ⟨(some 71), none, .plain (.faddr 0 (.tmp 70))⟩,
     ⟨(some 72), none, .plain (.load (some 8) (.tmp 71))⟩,
     ⟨(some 73), none, .call 44 [(.tmp 72)]⟩,
     ⟨(some 74), none, .plain (.bin .add (.tmp 73) (.const (.int .i64 2)))⟩,
     ⟨(some 75), none, .plain (.makeSlice ⟨1, 4, [(.int .u32 0)]⟩ (.tmp 74) (.tmp 74))⟩,
     ⟨(some 76), none, .plain (.nilCheck (.tmp 68))⟩,
     ⟨(some 77), none, .plain (.faddr 8 (.tmp 76))⟩,
     ⟨none, none, .plain (.store 1 (.tmp 77) (.tmp 75))⟩])
  (.both (.both (.seq [⟨(some 10), none, .plain (.mov (.const (.int .i64 2)))⟩])
   (.block 0 (.loop (.both (.both (.seq [⟨(some 78), none, .plain (.mov (.tmp 10))⟩,
         ⟨(some 79), none, .plain (.mov (.tmp 0))⟩,
         ⟨(some 80), none, .plain (.nilCheck (.tmp 79))⟩,
         ⟨(some 81), none, .plain (.faddr 8 (.tmp 80))⟩,
         ⟨(some 82), none, .plain (.load none (.tmp 81))⟩,
         ⟨(some 83), none, .plain (.len .sl (.tmp 82))⟩,
         ⟨(some 84), none, .plain (.bin .lss (.tmp 78) (.tmp 83))⟩])
      (.cond (.tmp 84)
       .skip
       (.exit 0)))
     (.both (.block 1 (.both (.seq [⟨(some 88), none, .plain (.mov (.tmp 6))⟩,
          ⟨(some 89), none, .plain (.mov (.tmp 10))⟩,
          ⟨(some 90), none, .plain (.bin .mul (.const (.int .i64 4)) (.tmp 89))⟩,
          ⟨(some 91), none, .call 68 [(.tmp 88), (.tmp 90)]⟩,
          ⟨(some 87), none, .plain (.mov (.tmp 91))⟩,
          ⟨(some 92), none, .plain (.extract (.tmp 87) 0)⟩,
          ⟨(some 93), none, .plain (.extract (.tmp 87) 1)⟩,
          ⟨(some 11), none, .plain (.mov (.tmp 92))⟩,
          ⟨(some 12), none, .plain (.mov (.tmp 93))⟩])
       (.seq [⟨(some 94), none, .plain (.mov (.tmp 0))⟩,
         ⟨(some 95), none, .plain (.nilCheck (.tmp 94))⟩,
         ⟨(some 96), none, .plain (.faddr 8 (.tmp 95))⟩,
         ⟨(some 97), none, .plain (.load none (.tmp 96))⟩,
         ⟨(some 98), none, .plain (.mov (.tmp 10))⟩,
         ⟨(some 99), none, .plain (.mov (.tmp 11))⟩,
         ⟨(some 100), none, .plain (.bin .and (.tmp 99) (.const (.int .u32 268435455)))⟩,
         ⟨(some 101), none, .plain (.iaddr none 1 (.tmp 97) (.tmp 98))⟩,
         ⟨none, none, .plain (.store 1 (.tmp 101) (.tmp 100))⟩])))
     (.seq [⟨(some 85), none, .plain (.mov (.tmp 10))⟩,
       ⟨(some 86), none, .plain (.bin .add (.tmp 85) (.const (.int .i64 1)))⟩,
       ⟨(some 10), none, .plain (.mov (.tmp 86))⟩]))))))
  (.both (.seq [⟨(some 4), none, .plain (.mov (.const (.int .i64 0)))⟩])
  .ret))))))))⟩
/-- (*fettle/fat.Volume).free -/
def a79 : AFunc := ⟨1, [.tmp 2],
  (.both (.seq [⟨(some 2), none, .plain (.mov (.const (.int .i64 0)))⟩])
  (.both (.seq [⟨(some 3), none, .plain (.mov (.const (.int .i64 0)))⟩])
  (.both (.both (.seq [⟨(some 6), none, .plain (.mov (.tmp 0))⟩,
      ⟨(some 7), none, .plain (.nilCheck (.tmp 6))⟩,
      ⟨(some 8), none, .plain (.faddr 8 (.tmp 7))⟩,
      ⟨(some 9), none, .plain (.load none (.tmp 8))⟩,
      ⟨(some 10), none, .plain (.cut (.sl 1) (.tmp 9) (some (.const (.int .i64 2))) none none)⟩,
      ⟨(some 11), none, .plain (.len .sl (.tmp 10))⟩,
      ⟨(some 12), none, .plain (.mov (.const (.int .i64 0)))⟩])
   (.block 0 (.loop (.both (.seq [⟨(some 13), none, .plain (.bin .lss (.tmp 12) (.tmp 11))⟩])
     (.both (.cond (.tmp 13)
       .skip
       (.exit 0))
     (.both (.block 1 (.both (.seq [⟨(some 14), none, .plain (.iaddr none 1 (.tmp 10) (.tmp 12))⟩,
          ⟨(some 15), none, .plain (.load none (.tmp 14))⟩,
          ⟨(some 5), none, .plain (.mov (.tmp 15))⟩])
       (.both (.seq [⟨(some 16), none, .plain (.mov (.tmp 5))⟩,
          ⟨(some 17), none, .plain (.bin .eql (.tmp 16) (.const (.int .u32 0)))⟩])
       (.cond (.tmp 17)
        (.seq [⟨(some 18), none, .plain (.mov (.tmp 3))⟩,
          ⟨(some 19), none, .plain (.bin .add (.tmp 18) (.const (.int .i64 1)))⟩,
          ⟨(some 3), none, .plain (.mov (.tmp 19))⟩])
        .skip))))
     (.seq [⟨(some 20), none, .plain (.bin .add (.tmp 12) (.const (.int .i64 1)))⟩,
       ⟨(some 12), none, .plain (.mov (.tmp 20))⟩])))))))
  (.both (.seq [⟨(some 21), none, .plain (.mov (.tmp 3))⟩,
     ⟨(some 2), none, .plain (.mov (.tmp 21))⟩])
  .ret))))⟩
/-- (fettle/fat.Boot).At -/
def a80 : AFunc := ⟨2, [.cell 4 (some 2)],
  (.both (.seq [⟨(some 2), none, .plain (.box (.tmp 0))⟩,
     ⟨(some 4), none, .plain (.alloc [(.int .i64 0), (.int .i64 0)])⟩])
  (.both (.draw 0 [⟨0, .read, 0, ⟨(some 6), none, .plain (.load (some 8) (.tmp 2))⟩, [], []⟩,
     ⟨2, .pure, 0, ⟨(some 8), none, .plain (.mov (.tmp 1))⟩, [], []⟩,
     ⟨3, .pure, 0, ⟨(some 9), none, .plain (.bin .sub (.tmp 8) (.const (.int .i64 2)))⟩, [], []⟩,
     ⟨4, .pure, 0, ⟨(some 10), none, .plain (.faddr 0 (.tmp 2))⟩, [], []⟩,
     ⟨5, .read, 0, ⟨(some 11), none, .plain (.load none (.tmp 10))⟩, [], []⟩,
     ⟨6, .pure, 0, ⟨(some 12), none, .plain (.bin .mul (.tmp 9) (.tmp 11))⟩, [], []⟩,
     ⟨1, .chain, 0, ⟨(some 7), none, .call 60 [(.tmp 6)]⟩, [5], []⟩,
     ⟨7, .pure, 0, ⟨(some 13), none, .plain (.bin .add (.tmp 7) (.tmp 12))⟩, [], []⟩,
     ⟨8, .pure, 0, ⟨(some 14), none, .plain (.bin .mul (.tmp 13) (.const (.int .i64 512)))⟩, [], []⟩,
     ⟨9, .pure, 0, ⟨(some 5), none, .plain (.mov (.tmp 14))⟩, [], []⟩])
  (.both (.seq [⟨(some 15), none, .plain (.mov (.tmp 5))⟩,
     ⟨(some 16), none, .plain (.mov (.tmp 5))⟩,
     ⟨(some 17), none, .plain (.load (some 8) (.tmp 2))⟩,
     ⟨(some 18), none, .call 99 [(.tmp 17)]⟩,
     ⟨(some 19), none, .plain (.bin .add (.tmp 16) (.tmp 18))⟩,
     ⟨(some 20), none, .plain (.build (.str [(.int .i64 0), (.int .i64 0)] [(0, 1), (1, 1)]) [(0, (.tmp 15)), (1, (.tmp 19))])⟩,
     ⟨none, none, .plain (.store 2 (.tmp 4) (.tmp 20))⟩])
  .ret)))⟩
/-- fettle/extent.Norm -/
def a81 : AFunc := ⟨1, [.tmp 2],
  (.both (.seq [⟨(some 2), none, .plain (.mov (.const (.slice none 0 0)))⟩])
  (.both (.seq [⟨(some 8), none, .plain (.mov (.tmp 0))⟩,
     ⟨(some 9), none, .call 100 [(.tmp 8)]⟩,
     ⟨(some 3), none, .plain (.mov (.tmp 9))⟩])
  (.both (.seq [⟨(some 10), none, .plain (.mov (.tmp 3))⟩,
     ⟨(some 11), none, .call 101 [(.tmp 10), (.func 102)]⟩])
  (.both (.seq [⟨(some 4), none, .plain (.mov (.const (.slice none 0 0)))⟩])
  (.both (.both (.seq [⟨(some 12), none, .plain (.mov (.tmp 3))⟩,
      ⟨(some 13), none, .plain (.len .sl (.tmp 12))⟩,
      ⟨(some 14), none, .plain (.mov (.const (.int .i64 0)))⟩])
   (.block 0 (.loop (.both (.seq [⟨(some 15), none, .plain (.bin .lss (.tmp 14) (.tmp 13))⟩])
     (.both (.cond (.tmp 15)
       .skip
       (.exit 0))
     (.both (.block 1 (.both (.seq [⟨(some 16), none, .plain (.iaddr none 2 (.tmp 12) (.tmp 14))⟩,
          ⟨(some 17), none, .plain (.load (some 2) (.tmp 16))⟩,
          ⟨(some 6), none, .plain (.alloc [(.int .i64 0), (.int .i64 0)])⟩,
          ⟨none, none, .plain (.store 2 (.tmp 6) (.tmp 17))⟩])
       (.both (.both (.seq [⟨(some 18), none, .plain (.faddr 1 (.tmp 6))⟩,
           ⟨(some 19), none, .plain (.load none (.tmp 18))⟩,
           ⟨(some 20), none, .plain (.faddr 0 (.tmp 6))⟩,
           ⟨(some 21), none, .plain (.load none (.tmp 20))⟩,
           ⟨(some 22), none, .plain (.bin .leq (.tmp 19) (.tmp 21))⟩])
        (.cond (.tmp 22)
         (.exit 1)
         .skip))
       (.both (.both (.seq [⟨(some 23), none, .plain (.mov (.tmp 4))⟩,
           ⟨(some 24), none, .plain (.len .sl (.tmp 23))⟩,
           ⟨(some 7), none, .plain (.mov (.tmp 24))⟩])
        (.both (.seq [⟨(some 25), none, .plain (.mov (.tmp 7))⟩,
           ⟨(some 26), none, .plain (.bin .gtr (.tmp 25) (.const (.int .i64 0)))⟩,
           ⟨(some 27), none, .plain (.mov (.tmp 26))⟩,
           ⟨(some 28), (some (27, true)), .plain (.faddr 0 (.tmp 6))⟩,
           ⟨(some 29), (some (27, true)), .plain (.load none (.tmp 28))⟩,
           ⟨(some 30), (some (27, true)), .plain (.mov (.tmp 4))⟩,
           ⟨(some 31), (some (27, true)), .plain (.mov (.tmp 7))⟩,
           ⟨(some 32), (some (27, true)), .plain (.bin .sub (.tmp 31) (.const (.int .i64 1)))⟩,
           ⟨(some 33), (some (27, true)), .plain (.iaddr none 2 (.tmp 30) (.tmp 32))⟩,
           ⟨(some 34), (some (27, true)), .plain (.faddr 1 (.tmp 33))⟩,
           ⟨(some 35), (some (27, true)), .plain (.load none (.tmp 34))⟩,
           ⟨(some 36), (some (27, true)), .plain (.bin .leq (.tmp 29) (.tmp 35))⟩,
           ⟨(some 37), none, .plain (.pick (.tmp 27) (.tmp 36) (.const (.bool false)))⟩])
        (.cond (.tmp 37)
         (.both (.draw 0 [⟨0, .pure, 0, ⟨(some 38), none, .plain (.mov (.tmp 4))⟩, [], []⟩,
            ⟨1, .pure, 0, ⟨(some 39), none, .plain (.mov (.tmp 7))⟩, [], []⟩,
            ⟨2, .pure, 0, ⟨(some 40), none, .plain (.bin .sub (.tmp 39) (.const (.int .i64 1)))⟩, [], []⟩,
            ⟨3, .pure, 0, ⟨(some 41), none, .plain (.mov (.tmp 4))⟩, [], []⟩,
            ⟨4, .pure, 0, ⟨(some 42), none, .plain (.mov (.tmp 7))⟩, [], []⟩,
            ⟨5, .pure, 0, ⟨(some 43), none, .plain (.bin .sub (.tmp 42) (.const (.int .i64 1)))⟩, [], []⟩,
            ⟨6, .pure, 0, ⟨(some 44), none, .plain (.iaddr none 2 (.tmp 41) (.tmp 43))⟩, [], []⟩,
            ⟨7, .pure, 0, ⟨(some 45), none, .plain (.faddr 1 (.tmp 44))⟩, [], []⟩,
            ⟨8, .read, 0, ⟨(some 46), none, .plain (.load none (.tmp 45))⟩, [], []⟩,
            ⟨9, .pure, 0, ⟨(some 47), none, .plain (.faddr 1 (.tmp 6))⟩, [], []⟩,
            ⟨10, .read, 0, ⟨(some 48), none, .plain (.load none (.tmp 47))⟩, [], []⟩,
            ⟨11, .pure, 0, ⟨(some 49), none, .plain (.minmax true (.tmp 46) [(.tmp 48)])⟩, [], []⟩,
            ⟨12, .pure, 0, ⟨(some 50), none, .plain (.iaddr none 2 (.tmp 38) (.tmp 40))⟩, [], []⟩,
            ⟨13, .pure, 0, ⟨(some 51), none, .plain (.faddr 1 (.tmp 50))⟩, [], []⟩,
            ⟨14, .chain, 0, ⟨none, none, .plain (.store 1 (.tmp 51) (.tmp 49))⟩, [], []⟩])
         (.exit 1))
         .skip)))
       (.seq [⟨(some 52), none, .plain (.mov (.tmp 4))⟩,
         ⟨(some 53), none, .plain (.load (some 2) (.tmp 6))⟩,
         ⟨(some 54), none, .plain (.buildSlice ⟨2, 16, [(.int .i64 0), (.int .i64 0)]⟩ 1 [(0, (.tmp 53))])⟩,
         ⟨(some 55), none, .plain (.append ⟨2, 16, [(.int .i64 0), (.int .i64 0)]⟩ false (.tmp 52) (.tmp 54))⟩,
         ⟨(some 4), none, .plain (.mov (.tmp 55))⟩])))))
     (.seq [⟨(some 56), none, .plain (.bin .add (.tmp 14) (.const (.int .i64 1)))⟩,
       ⟨(some 14), none, .plain (.mov (.tmp 56))⟩])))))))
  (.both (.seq [⟨(some 57), none, .plain (.mov (.tmp 4))⟩,
     ⟨(some 2), none, .plain (.mov (.tmp 57))⟩])
  .ret))))))⟩
/-- fettle/fettleref01.Int -/
def a83 : AFunc := ⟨3, [.tmp 6],
  (.both (.seq [⟨(some 6), none, .plain (.mov (.const (.int .i64 0)))⟩])
  (.both (.seq [⟨(some 10), none, .plain (.mov (.tmp 0))⟩,
     ⟨(some 11), none, .plain (.mov (.tmp 1))⟩,
     ⟨(some 12), none, .plain (.mov (.tmp 2))⟩,
     ⟨(some 13), none, .call 105 [(.tmp 10), (.tmp 11), (.tmp 12)]⟩,
     ⟨(some 9), none, .plain (.mov (.tmp 13))⟩,
     ⟨(some 14), none, .plain (.extract (.tmp 9) 0)⟩,
     ⟨(some 15), none, .plain (.extract (.tmp 9) 1)⟩,
     ⟨(some 7), none, .plain (.mov (.tmp 14))⟩,
     ⟨(some 8), none, .plain (.mov (.tmp 15))⟩])
  (.both (.seq [⟨(some 16), none, .plain (.mov (.tmp 7))⟩,
     ⟨(some 17), none, .plain (.conv (.int .i64) (.tmp 16))⟩,
     ⟨(some 6), none, .plain (.mov (.tmp 17))⟩])
  .ret)))⟩
/-- fettle/octet.put[uint16] -/
def a88 : AFunc := ⟨4, [.tmp 8],
  (.both (.seq [⟨(some 8), none, .plain (.mov (.const (.bool false)))⟩])
  (.both (.both (.seq [⟨(some 10), none, .plain (.mov (.tmp 0))⟩,
      ⟨(some 11), none, .plain (.mov (.tmp 1))⟩,
      ⟨(some 12), none, .plain (.mov (.tmp 2))⟩,
      ⟨(some 13), none, .call 90 [(.tmp 10), (.tmp 11), (.tmp 12)]⟩,
      ⟨(some 14), none, .plain (.un .not (.tmp 13))⟩])
   (.cond (.tmp 14)
    (.both (.seq [⟨(some 8), none, .plain (.mov (.const (.bool false)))⟩])
    .ret)
    .skip))
  (.both (.both (.seq [⟨(some 15), none, .plain (.mov (.tmp 2))⟩,
      ⟨(some 16), none, .plain (.mov (.const (.int .i64 0)))⟩])
   (.block 0 (.loop (.both (.seq [⟨(some 17), none, .plain (.bin .lss (.tmp 16) (.tmp 15))⟩])
     (.both (.cond (.tmp 17)
       .skip
       (.exit 0))
     (.both (.block 1 (.both (.seq [⟨(some 18), none, .plain (.mov (.tmp 16))⟩,
          ⟨(some 9), none, .plain (.mov (.tmp 18))⟩])
       (.both (.seq [⟨(some 19), none, .plain (.mov (.tmp 0))⟩,
          ⟨(some 20), none, .plain (.mov (.tmp 1))⟩,
          ⟨(some 21), none, .plain (.mov (.tmp 9))⟩,
          ⟨(some 22), none, .plain (.bin .add (.tmp 20) (.tmp 21))⟩,
          ⟨(some 23), none, .plain (.mov (.tmp 3))⟩,
          ⟨(some 24), none, .plain (.conv (.int .u8) (.tmp 23))⟩,
          ⟨(some 25), none, .plain (.iaddr none 1 (.tmp 19) (.tmp 22))⟩,
          ⟨none, none, .plain (.store 1 (.tmp 25) (.tmp 24))⟩])
       (.seq [⟨(some 26), none, .plain (.mov (.tmp 3))⟩,
         ⟨(some 27), none, .plain (.bin .shr (.tmp 26) (.const (.int .u64 8)))⟩,
         ⟨(some 3), none, .plain (.mov (.tmp 27))⟩]))))
     (.seq [⟨(some 28), none, .plain (.bin .add (.tmp 16) (.const (.int .i64 1)))⟩,
       ⟨(some 16), none, .plain (.mov (.tmp 28))⟩])))))))
  (.both (.seq [⟨(some 8), none, .plain (.mov (.const (.bool true)))⟩])
  .ret))))⟩
/-- fettle/octet.put[uint32] -/
def a89 : AFunc := ⟨4, [.tmp 8],
  (.both (.seq [⟨(some 8), none, .plain (.mov (.const (.bool false)))⟩])
  (.both (.both (.seq [⟨(some 10), none, .plain (.mov (.tmp 0))⟩,
      ⟨(some 11), none, .plain (.mov (.tmp 1))⟩,
      ⟨(some 12), none, .plain (.mov (.tmp 2))⟩,
      ⟨(some 13), none, .call 90 [(.tmp 10), (.tmp 11), (.tmp 12)]⟩,
      ⟨(some 14), none, .plain (.un .not (.tmp 13))⟩])
   (.cond (.tmp 14)
    (.both (.seq [⟨(some 8), none, .plain (.mov (.const (.bool false)))⟩])
    .ret)
    .skip))
  (.both (.both (.seq [⟨(some 15), none, .plain (.mov (.tmp 2))⟩,
      ⟨(some 16), none, .plain (.mov (.const (.int .i64 0)))⟩])
   (.block 0 (.loop (.both (.seq [⟨(some 17), none, .plain (.bin .lss (.tmp 16) (.tmp 15))⟩])
     (.both (.cond (.tmp 17)
       .skip
       (.exit 0))
     (.both (.block 1 (.both (.seq [⟨(some 18), none, .plain (.mov (.tmp 16))⟩,
          ⟨(some 9), none, .plain (.mov (.tmp 18))⟩])
       (.both (.seq [⟨(some 19), none, .plain (.mov (.tmp 0))⟩,
          ⟨(some 20), none, .plain (.mov (.tmp 1))⟩,
          ⟨(some 21), none, .plain (.mov (.tmp 9))⟩,
          ⟨(some 22), none, .plain (.bin .add (.tmp 20) (.tmp 21))⟩,
          ⟨(some 23), none, .plain (.mov (.tmp 3))⟩,
          ⟨(some 24), none, .plain (.conv (.int .u8) (.tmp 23))⟩,
          ⟨(some 25), none, .plain (.iaddr none 1 (.tmp 19) (.tmp 22))⟩,
          ⟨none, none, .plain (.store 1 (.tmp 25) (.tmp 24))⟩])
       (.seq [⟨(some 26), none, .plain (.mov (.tmp 3))⟩,
         ⟨(some 27), none, .plain (.bin .shr (.tmp 26) (.const (.int .u64 8)))⟩,
         ⟨(some 3), none, .plain (.mov (.tmp 27))⟩]))))
     (.seq [⟨(some 28), none, .plain (.bin .add (.tmp 16) (.const (.int .i64 1)))⟩,
       ⟨(some 16), none, .plain (.mov (.tmp 28))⟩])))))))
  (.both (.seq [⟨(some 8), none, .plain (.mov (.const (.bool true)))⟩])
  .ret))))⟩
/-- fettle/octet.in -/
def a90 : AFunc := ⟨3, [.tmp 6],
  (.both (.seq [⟨(some 6), none, .plain (.mov (.const (.bool false)))⟩])
  (.both (.seq [⟨(some 7), none, .plain (.mov (.tmp 1))⟩,
     ⟨(some 8), none, .plain (.bin .geq (.tmp 7) (.const (.int .i64 0)))⟩,
     ⟨(some 9), none, .plain (.mov (.tmp 8))⟩,
     ⟨(some 10), (some (9, true)), .plain (.mov (.tmp 2))⟩,
     ⟨(some 11), (some (9, true)), .plain (.bin .geq (.tmp 10) (.const (.int .i64 0)))⟩,
     ⟨(some 12), none, .plain (.pick (.tmp 9) (.tmp 11) (.const (.bool false)))⟩,
     ⟨(some 13), none, .plain (.mov (.tmp 12))⟩,
     ⟨(some 14), (some (13, true)), .plain (.mov (.tmp 1))⟩,
     ⟨(some 15), (some (13, true)), .plain (.mov (.tmp 0))⟩,
     ⟨(some 16), (some (13, true)), .plain (.len .sl (.tmp 15))⟩,
     ⟨(some 17), (some (13, true)), .plain (.bin .leq (.tmp 14) (.tmp 16))⟩,
     ⟨(some 18), none, .plain (.pick (.tmp 13) (.tmp 17) (.const (.bool false)))⟩,
     ⟨(some 19), none, .plain (.mov (.tmp 18))⟩,
     ⟨(some 20), (some (19, true)), .plain (.mov (.tmp 2))⟩,
     ⟨(some 21), (some (19, true)), .plain (.mov (.tmp 0))⟩,
     ⟨(some 22), (some (19, true)), .plain (.len .sl (.tmp 21))⟩,
     ⟨(some 23), (some (19, true)), .plain (.mov (.tmp 1))⟩,
     ⟨(some 24), (some (19, true)), .plain (.bin .sub (.tmp 22) (.tmp 23))⟩,
     ⟨(some 25), (some (19, true)), .plain (.bin .leq (.tmp 20) (.tmp 24))⟩,
     ⟨(some 26), none, .plain (.pick (.tmp 19) (.tmp 25) (.const (.bool false)))⟩,
     ⟨(some 6), none, .plain (.mov (.tmp 26))⟩])
  .ret))⟩
/-- fettle/octet.little[uint16] -/
def a91 : AFunc := ⟨3, [.tmp 6, .tmp 7],
  (.both (.seq [⟨(some 6), none, .plain (.mov (.const (.int .u16 0)))⟩,
     ⟨(some 7), none, .plain (.mov (.const (.bool false)))⟩])
  (.both (.seq [⟨(some 8), none, .plain (.mov (.const (.int .u16 0)))⟩])
  (.both (.both (.seq [⟨(some 10), none, .plain (.mov (.tmp 0))⟩,
      ⟨(some 11), none, .plain (.mov (.tmp 1))⟩,
      ⟨(some 12), none, .plain (.mov (.tmp 2))⟩,
      ⟨(some 13), none, .call 90 [(.tmp 10), (.tmp 11), (.tmp 12)]⟩,
      ⟨(some 14), none, .plain (.un .not (.tmp 13))⟩])
   (.cond (.tmp 14)
    (.both (.seq [⟨(some 6), none, .plain (.mov (.const (.int .u16 0)))⟩,
       ⟨(some 7), none, .plain (.mov (.const (.bool false)))⟩])
    .ret)
    .skip))
  (.both (.both (.seq [⟨(some 15), none, .plain (.mov (.tmp 2))⟩,
      ⟨(some 16), none, .plain (.bin .sub (.tmp 15) (.const (.int .i64 1)))⟩,
      ⟨(some 9), none, .plain (.mov (.tmp 16))⟩])
   (.block 0 (.loop (.both (.both (.seq [⟨(some 17), none, .plain (.mov (.tmp 9))⟩,
         ⟨(some 18), none, .plain (.bin .geq (.tmp 17) (.const (.int .i64 0)))⟩])
      (.cond (.tmp 18)
       .skip
       (.exit 0)))
     (.both (.block 1 (.seq [⟨(some 21), none, .plain (.mov (.tmp 8))⟩,
         ⟨(some 22), none, .plain (.bin .shl (.tmp 21) (.const (.int .u64 8)))⟩,
         ⟨(some 23), none, .plain (.mov (.tmp 0))⟩,
         ⟨(some 24), none, .plain (.mov (.tmp 1))⟩,
         ⟨(some 25), none, .plain (.mov (.tmp 9))⟩,
         ⟨(some 26), none, .plain (.bin .add (.tmp 24) (.tmp 25))⟩,
         ⟨(some 27), none, .plain (.iaddr none 1 (.tmp 23) (.tmp 26))⟩,
         ⟨(some 28), none, .plain (.load none (.tmp 27))⟩,
         ⟨(some 29), none, .plain (.conv (.int .u16) (.tmp 28))⟩,
         ⟨(some 30), none, .plain (.bin .or (.tmp 22) (.tmp 29))⟩,
         ⟨(some 8), none, .plain (.mov (.tmp 30))⟩]))
     (.seq [⟨(some 19), none, .plain (.mov (.tmp 9))⟩,
       ⟨(some 20), none, .plain (.bin .sub (.tmp 19) (.const (.int .i64 1)))⟩,
       ⟨(some 9), none, .plain (.mov (.tmp 20))⟩]))))))
  (.both (.seq [⟨(some 31), none, .plain (.mov (.tmp 8))⟩,
     ⟨(some 6), none, .plain (.mov (.tmp 31))⟩,
     ⟨(some 7), none, .plain (.mov (.const (.bool true)))⟩])
  .ret)))))⟩
/-- fettle/octet.little[uint32] -/
def a92 : AFunc := ⟨3, [.tmp 6, .tmp 7],
  (.both (.seq [⟨(some 6), none, .plain (.mov (.const (.int .u32 0)))⟩,
     ⟨(some 7), none, .plain (.mov (.const (.bool false)))⟩])
  (.both (.seq [⟨(some 8), none, .plain (.mov (.const (.int .u32 0)))⟩])
  (.both (.both (.seq [⟨(some 10), none, .plain (.mov (.tmp 0))⟩,
      ⟨(some 11), none, .plain (.mov (.tmp 1))⟩,
      ⟨(some 12), none, .plain (.mov (.tmp 2))⟩,
      ⟨(some 13), none, .call 90 [(.tmp 10), (.tmp 11), (.tmp 12)]⟩,
      ⟨(some 14), none, .plain (.un .not (.tmp 13))⟩])
   (.cond (.tmp 14)
    (.both (.seq [⟨(some 6), none, .plain (.mov (.const (.int .u32 0)))⟩,
       ⟨(some 7), none, .plain (.mov (.const (.bool false)))⟩])
    .ret)
    .skip))
  (.both (.both (.seq [⟨(some 15), none, .plain (.mov (.tmp 2))⟩,
      ⟨(some 16), none, .plain (.bin .sub (.tmp 15) (.const (.int .i64 1)))⟩,
      ⟨(some 9), none, .plain (.mov (.tmp 16))⟩])
   (.block 0 (.loop (.both (.both (.seq [⟨(some 17), none, .plain (.mov (.tmp 9))⟩,
         ⟨(some 18), none, .plain (.bin .geq (.tmp 17) (.const (.int .i64 0)))⟩])
      (.cond (.tmp 18)
       .skip
       (.exit 0)))
     (.both (.block 1 (.seq [⟨(some 21), none, .plain (.mov (.tmp 8))⟩,
         ⟨(some 22), none, .plain (.bin .shl (.tmp 21) (.const (.int .u64 8)))⟩,
         ⟨(some 23), none, .plain (.mov (.tmp 0))⟩,
         ⟨(some 24), none, .plain (.mov (.tmp 1))⟩,
         ⟨(some 25), none, .plain (.mov (.tmp 9))⟩,
         ⟨(some 26), none, .plain (.bin .add (.tmp 24) (.tmp 25))⟩,
         ⟨(some 27), none, .plain (.iaddr none 1 (.tmp 23) (.tmp 26))⟩,
         ⟨(some 28), none, .plain (.load none (.tmp 27))⟩,
         ⟨(some 29), none, .plain (.conv (.int .u32) (.tmp 28))⟩,
         ⟨(some 30), none, .plain (.bin .or (.tmp 22) (.tmp 29))⟩,
         ⟨(some 8), none, .plain (.mov (.tmp 30))⟩]))
     (.seq [⟨(some 19), none, .plain (.mov (.tmp 9))⟩,
       ⟨(some 20), none, .plain (.bin .sub (.tmp 19) (.const (.int .i64 1)))⟩,
       ⟨(some 9), none, .plain (.mov (.tmp 20))⟩]))))))
  (.both (.seq [⟨(some 31), none, .plain (.mov (.tmp 8))⟩,
     ⟨(some 6), none, .plain (.mov (.tmp 31))⟩,
     ⟨(some 7), none, .plain (.mov (.const (.bool true)))⟩])
  .ret)))))⟩
/-- (fettle/fat.Boot).Unit -/
def a99 : AFunc := ⟨1, [.tmp 2],
  (.both (.seq [⟨(some 1), none, .plain (.box (.tmp 0))⟩,
     ⟨(some 2), none, .plain (.mov (.const (.int .i64 0)))⟩])
  (.both (.seq [⟨(some 3), none, .plain (.faddr 0 (.tmp 1))⟩,
     ⟨(some 4), none, .plain (.load none (.tmp 3))⟩,
     ⟨(some 5), none, .plain (.bin .mul (.tmp 4) (.const (.int .i64 512)))⟩,
     ⟨(some 2), none, .plain (.mov (.tmp 5))⟩])
  .ret))⟩
/-- slices.Clone[[]fettle/api.Ext,fettle/api.Ext] -/
def a100 : AFunc := ⟨1, [.tmp 2],
  (.both (.seq [⟨(some 2), none, .plain (.mov (.const (.slice none 0 0)))⟩])
  (.both (.both (.seq [⟨(some 3), none, .plain (.mov (.tmp 0))⟩,
      ⟨(some 4), none, .plain (.eqN false .sl true (.tmp 3) (.const (.slice none 0 0)))⟩])
   (.cond (.tmp 4)
    (.both (.seq [⟨(some 2), none, .plain (.mov (.const (.slice none 0 0)))⟩])
    .ret)
    .skip))
  (.both (.seq [⟨(some 5), none, .plain (.buildSlice ⟨2, 16, [(.int .i64 0), (.int .i64 0)]⟩ 0 [])⟩,
     ⟨(some 6), none, .plain (.mov (.tmp 0))⟩,
     ⟨(some 7), none, .plain (.append ⟨2, 16, [(.int .i64 0), (.int .i64 0)]⟩ false (.tmp 5) (.tmp 6))⟩,
     ⟨(some 2), none, .plain (.mov (.tmp 7))⟩])
  .ret)))⟩
/-- slices.SortFunc[[]fettle/api.Ext,fettle/api.Ext] -/
def a101 : AFunc := ⟨2, [],
  (.both (.seq [⟨(some 5), none, .plain (.mov (.tmp 0))⟩,
     ⟨(some 6), none, .plain (.len .sl (.tmp 5))⟩,
     ⟨(some 4), none, .plain (.mov (.tmp 6))⟩])
  (.seq [⟨(some 7), none, .plain (.mov (.tmp 0))⟩,
    ⟨(some 8), none, .plain (.mov (.tmp 4))⟩,
    ⟨(some 9), none, .plain (.mov (.tmp 4))⟩,
    ⟨(some 10), none, .plain (.conv (.int .u64) (.tmp 9))⟩,
    ⟨(some 11), none, .call 114 [(.tmp 10)]⟩,
    ⟨(some 12), none, .plain (.mov (.tmp 1))⟩,
    ⟨(some 13), none, .call 113 [(.tmp 7), (.const (.int .i64 0)), (.tmp 8), (.tmp 11), (.tmp 12)]⟩]))⟩
/-- fettle/extent.Norm$1 -/
def a102 : AFunc := ⟨2, [.tmp 4],
  (.both (.seq [⟨(some 2), none, .plain (.box (.tmp 0))⟩,
     ⟨(some 3), none, .plain (.box (.tmp 1))⟩,
     ⟨(some 4), none, .plain (.mov (.const (.int .i64 0)))⟩])
  (.both (.seq [⟨(some 5), none, .plain (.faddr 0 (.tmp 2))⟩,
     ⟨(some 6), none, .plain (.load none (.tmp 5))⟩,
     ⟨(some 7), none, .plain (.faddr 0 (.tmp 3))⟩,
     ⟨(some 8), none, .plain (.load none (.tmp 7))⟩,
     ⟨(some 9), none, .call 103 [(.tmp 6), (.tmp 8)]⟩,
     ⟨(some 4), none, .plain (.mov (.tmp 9))⟩])
  .ret))⟩
/-- cmp.Compare[int64] -/
def a103 : AFunc := ⟨2, [.tmp 4],
  (.both (.seq [⟨(some 4), none, .plain (.mov (.const (.int .i64 0)))⟩])
  (.both (.seq [⟨(some 7), none, .plain (.mov (.tmp 0))⟩,
     ⟨(some 8), none, .call 115 [(.tmp 7)]⟩,
     ⟨(some 5), none, .plain (.mov (.tmp 8))⟩])
  (.both (.seq [⟨(some 9), none, .plain (.mov (.tmp 1))⟩,
     ⟨(some 10), none, .call 115 [(.tmp 9)]⟩,
     ⟨(some 6), none, .plain (.mov (.tmp 10))⟩])
  (.both (.both (.seq [⟨(some 11), none, .plain (.mov (.tmp 5))⟩])
   (.cond (.tmp 11)
    (.both (.both (.seq [⟨(some 12), none, .plain (.mov (.tmp 6))⟩])
     (.cond (.tmp 12)
      (.both (.seq [⟨(some 4), none, .plain (.mov (.const (.int .i64 0)))⟩])
      .ret)
      .skip))
    (.both (.seq [⟨(some 4), none, .plain (.mov (.const (.int .i64 (-1))))⟩])
    .ret))
    .skip))
  (.both (.both (.seq [⟨(some 13), none, .plain (.mov (.tmp 6))⟩])
   (.cond (.tmp 13)
    (.both (.seq [⟨(some 4), none, .plain (.mov (.const (.int .i64 1)))⟩])
    .ret)
    .skip))
  (.both (.both (.seq [⟨(some 14), none, .plain (.mov (.tmp 0))⟩,
      ⟨(some 15), none, .plain (.mov (.tmp 1))⟩,
      ⟨(some 16), none, .plain (.bin .lss (.tmp 14) (.tmp 15))⟩])
   (.cond (.tmp 16)
    (.both (.seq [⟨(some 4), none, .plain (.mov (.const (.int .i64 (-1))))⟩])
    .ret)
    .skip))
  (.both (.both (.seq [⟨(some 17), none, .plain (.mov (.tmp 0))⟩,
      ⟨(some 18), none, .plain (.mov (.tmp 1))⟩,
      ⟨(some 19), none, .plain (.bin .gtr (.tmp 17) (.tmp 18))⟩])
   (.cond (.tmp 19)
    (.both (.seq [⟨(some 4), none, .plain (.mov (.const (.int .i64 1)))⟩])
    .ret)
    .skip))
  (.both (.seq [⟨(some 4), none, .plain (.mov (.const (.int .i64 0)))⟩])
  .ret))))))))⟩
/-- fettle/fettleref01.Num -/
def a105 : AFunc := ⟨3, [.tmp 6, .tmp 7],
  (.both (.seq [⟨(some 6), none, .plain (.mov (.const (.int .u64 0)))⟩,
     ⟨(some 7), none, .plain (.mov (.const (.bool false)))⟩])
  (.both (.both (.seq [⟨(some 11), none, .plain (.mov (.tmp 0))⟩,
      ⟨(some 12), none, .plain (.mov (.tmp 1))⟩,
      ⟨(some 13), none, .plain (.mov (.tmp 2))⟩,
      ⟨(some 14), none, .call 116 [(.tmp 11), (.tmp 12), (.tmp 13)]⟩,
      ⟨(some 15), none, .plain (.un .not (.tmp 14))⟩])
   (.cond (.tmp 15)
    (.both (.seq [⟨(some 6), none, .plain (.mov (.const (.int .u64 0)))⟩,
       ⟨(some 7), none, .plain (.mov (.const (.bool false)))⟩])
    .ret)
    .skip))
  (.both (.seq [⟨(some 8), none, .plain (.mov (.const (.int .u64 0)))⟩])
  (.both (.seq [⟨(some 9), none, .plain (.mov (.const (.int .u64 1)))⟩])
  (.both (.both (.seq [⟨(some 10), none, .plain (.mov (.const (.int .i64 0)))⟩])
   (.block 0 (.loop (.both (.both (.seq [⟨(some 16), none, .plain (.mov (.tmp 10))⟩,
         ⟨(some 17), none, .plain (.mov (.tmp 2))⟩,
         ⟨(some 18), none, .plain (.bin .lss (.tmp 16) (.tmp 17))⟩])
      (.cond (.tmp 18)
       .skip
       (.exit 0)))
     (.both (.block 1 (.both (.seq [⟨(some 21), none, .plain (.mov (.tmp 8))⟩,
          ⟨(some 22), none, .plain (.mov (.tmp 0))⟩,
          ⟨(some 23), none, .plain (.mov (.tmp 1))⟩,
          ⟨(some 24), none, .plain (.mov (.tmp 10))⟩,
          ⟨(some 25), none, .plain (.bin .add (.tmp 23) (.tmp 24))⟩,
          ⟨(some 26), none, .plain (.iaddr none 1 (.tmp 22) (.tmp 25))⟩,
          ⟨(some 27), none, .plain (.load none (.tmp 26))⟩,
          ⟨(some 28), none, .plain (.conv (.int .u64) (.tmp 27))⟩,
          ⟨(some 29), none, .plain (.mov (.tmp 9))⟩,
          ⟨(some 30), none, .plain (.bin .mul (.tmp 28) (.tmp 29))⟩,
          ⟨(some 31), none, .plain (.bin .add (.tmp 21) (.tmp 30))⟩,
          ⟨(some 8), none, .plain (.mov (.tmp 31))⟩])
       (.seq [⟨(some 32), none, .plain (.mov (.tmp 9))⟩,
         ⟨(some 33), none, .plain (.bin .mul (.tmp 32) (.const (.int .u64 256)))⟩,
         ⟨(some 9), none, .plain (.mov (.tmp 33))⟩])))
     (.seq [⟨(some 19), none, .plain (.mov (.tmp 10))⟩,
       ⟨(some 20), none, .plain (.bin .add (.tmp 19) (.const (.int .i64 1)))⟩,
       ⟨(some 10), none, .plain (.mov (.tmp 20))⟩]))))))
  (.both (.seq [⟨(some 34), none, .plain (.mov (.tmp 8))⟩,
     ⟨(some 6), none, .plain (.mov (.tmp 34))⟩,
     ⟨(some 7), none, .plain (.mov (.const (.bool true)))⟩])
  .ret))))))⟩
/-- slices.pdqsortCmpFunc[fettle/api.Ext] -/
def a113 : AFunc := ⟨5, [],
  (.both (.seq [⟨(some 10), none, .plain (.mov (.const (.bool true)))⟩])
  (.both (.seq [⟨(some 11), none, .plain (.mov (.const (.bool true)))⟩])
  (.block 0 (.loop (.block 1 (.both (.seq [⟨(some 21), none, .plain (.mov (.tmp 2))⟩,
        ⟨(some 22), none, .plain (.mov (.tmp 1))⟩,
        ⟨(some 23), none, .plain (.bin .sub (.tmp 21) (.tmp 22))⟩,
        ⟨(some 12), none, .plain (.mov (.tmp 23))⟩])
     (.both (.both (.seq [⟨(some 24), none, .plain (.mov (.tmp 12))⟩,
         ⟨(some 25), none, .plain (.bin .leq (.tmp 24) (.const (.int .i64 12)))⟩])
      (.cond (.tmp 25)
       (.both (.seq [⟨(some 26), none, .plain (.mov (.tmp 0))⟩,
          ⟨(some 27), none, .plain (.mov (.tmp 1))⟩,
          ⟨(some 28), none, .plain (.mov (.tmp 2))⟩,
          ⟨(some 29), none, .plain (.mov (.tmp 4))⟩,
          ⟨(some 30), none, .call 119 [(.tmp 26), (.tmp 27), (.tmp 28), (.tmp 29)]⟩])
       .ret)
       .skip))
     (.both (.both (.seq [⟨(some 31), none, .plain (.mov (.tmp 3))⟩,
         ⟨(some 32), none, .plain (.bin .eql (.tmp 31) (.const (.int .i64 0)))⟩])
      (.cond (.tmp 32)
       (.both (.seq [⟨(some 33), none, .plain (.mov (.tmp 0))⟩,
          ⟨(some 34), none, .plain (.mov (.tmp 1))⟩,
          ⟨(some 35), none, .plain (.mov (.tmp 2))⟩,
          ⟨(some 36), none, .plain (.mov (.tmp 4))⟩,
          ⟨(some 37), none, .call 120 [(.tmp 33), (.tmp 34), (.tmp 35), (.tmp 36)]⟩])
       .ret)
       .skip))
     (.both (.both (.seq [⟨(some 38), none, .plain (.mov (.tmp 10))⟩,
         ⟨(some 39), none, .plain (.un .not (.tmp 38))⟩])
      (.cond (.tmp 39)
       (.both (.seq [⟨(some 40), none, .plain (.mov (.tmp 0))⟩,
          ⟨(some 41), none, .plain (.mov (.tmp 1))⟩,
          ⟨(some 42), none, .plain (.mov (.tmp 2))⟩,
          ⟨(some 43), none, .plain (.mov (.tmp 4))⟩,
          ⟨(some 44), none, .call 121 [(.tmp 40), (.tmp 41), (.tmp 42), (.tmp 43)]⟩])
       (.seq [⟨(some 45), none, .plain (.mov (.tmp 3))⟩,
         ⟨(some 46), none, .plain (.bin .sub (.tmp 45) (.const (.int .i64 1)))⟩,
         ⟨(some 3), none, .plain (.mov (.tmp 46))⟩]))
       .skip))
     (.both (.seq [⟨(some 48), none, .plain (.mov (.tmp 0))⟩,
        ⟨(some 49), none, .plain (.mov (.tmp 1))⟩,
        ⟨(some 50), none, .plain (.mov (.tmp 2))⟩,
        ⟨(some 51), none, .plain (.mov (.tmp 4))⟩,
        ⟨(some 52), none, .call 122 [(.tmp 48), (.tmp 49), (.tmp 50), (.tmp 51)]⟩,
        ⟨(some 47), none, .plain (.mov (.tmp 52))⟩,
        ⟨(some 53), none, .plain (.extract (.tmp 47) 0)⟩,
        ⟨(some 54), none, .plain (.extract (.tmp 47) 1)⟩,
        ⟨(some 13), none, .plain (.mov (.tmp 53))⟩,
        ⟨(some 14), none, .plain (.mov (.tmp 54))⟩])
     (.both (.both (.seq [⟨(some 55), none, .plain (.mov (.tmp 14))⟩,
         ⟨(some 56), none, .plain (.bin .eql (.tmp 55) (.const (.int .i64 2)))⟩])
      (.cond (.tmp 56)
       (.both (.seq [⟨(some 57), none, .plain (.mov (.tmp 0))⟩,
          ⟨(some 58), none, .plain (.mov (.tmp 1))⟩,
          ⟨(some 59), none, .plain (.mov (.tmp 2))⟩,
          ⟨(some 60), none, .plain (.mov (.tmp 4))⟩,
          ⟨(some 61), none, .call 123 [(.tmp 57), (.tmp 58), (.tmp 59), (.tmp 60)]⟩])
       (.both (.seq [⟨(some 62), none, .plain (.mov (.tmp 2))⟩,
          ⟨(some 63), none, .plain (.bin .sub (.tmp 62) (.const (.int .i64 1)))⟩,
          ⟨(some 64), none, .plain (.mov (.tmp 13))⟩,
          ⟨(some 65), none, .plain (.mov (.tmp 1))⟩,
          ⟨(some 66), none, .plain (.bin .sub (.tmp 64) (.tmp 65))⟩,
          ⟨(some 67), none, .plain (.bin .sub (.tmp 63) (.tmp 66))⟩,
          ⟨(some 13), none, .plain (.mov (.tmp 67))⟩])
       (.seq [⟨(some 14), none, .plain (.mov (.const (.int .i64 1)))⟩])))
       .skip))
     (.both (.both (.seq [⟨(some 68), none, .plain (.mov (.tmp 10))⟩,
         ⟨(some 69), none, .plain (.mov (.tmp 68))⟩,
         ⟨(some 70), (some (69, true)), .plain (.mov (.tmp 11))⟩,
         ⟨(some 71), none, .plain (.pick (.tmp 69) (.tmp 70) (.const (.bool false)))⟩,
         ⟨(some 72), none, .plain (.mov (.tmp 71))⟩,
         ⟨(some 73), (some (72, true)), .plain (.mov (.tmp 14))⟩,
         ⟨(some 74), (some (72, true)), .plain (.bin .eql (.tmp 73) (.const (.int .i64 1)))⟩,
         ⟨(some 75), none, .plain (.pick (.tmp 72) (.tmp 74) (.const (.bool false)))⟩])
      (.cond (.tmp 75)
       (.both (.seq [⟨(some 76), none, .plain (.mov (.tmp 0))⟩,
          ⟨(some 77), none, .plain (.mov (.tmp 1))⟩,
          ⟨(some 78), none, .plain (.mov (.tmp 2))⟩,
          ⟨(some 79), none, .plain (.mov (.tmp 4))⟩,
          ⟨(some 80), none, .call 124 [(.tmp 76), (.tmp 77), (.tmp 78), (.tmp 79)]⟩])
       (.cond (.tmp 80)
        .ret
        .skip))
       .skip))
     (.both (.both (.draw 0 [⟨0, .pure, 0, ⟨(some 81), none, .plain (.mov (.tmp 1))⟩, [], []⟩,
         ⟨1, .pure, 0, ⟨(some 82), none, .plain (.bin .gtr (.tmp 81) (.const (.int .i64 0)))⟩, [], []⟩,
         ⟨2, .pure, 0, ⟨(some 83), none, .plain (.mov (.tmp 82))⟩, [], []⟩,
         ⟨3, .pure, 0, ⟨(some 84), (some (83, true)), .plain (.mov (.tmp 4))⟩, [], []⟩,
         ⟨4, .pure, 0, ⟨(some 85), (some (83, true)), .plain (.mov (.tmp 0))⟩, [], []⟩,
         ⟨5, .pure, 0, ⟨(some 86), (some (83, true)), .plain (.mov (.tmp 1))⟩, [], []⟩,
         ⟨6, .pure, 0, ⟨(some 87), (some (83, true)), .plain (.bin .sub (.tmp 86) (.const (.int .i64 1)))⟩, [], []⟩,
         ⟨7, .pure, 0, ⟨(some 88), (some (83, true)), .plain (.iaddr none 2 (.tmp 85) (.tmp 87))⟩, [], []⟩,
         ⟨8, .read, 0, ⟨(some 89), (some (83, true)), .plain (.load (some 2) (.tmp 88))⟩, [], []⟩,
         ⟨9, .pure, 0, ⟨(some 90), (some (83, true)), .plain (.mov (.tmp 0))⟩, [], []⟩,
         ⟨10, .pure, 0, ⟨(some 91), (some (83, true)), .plain (.mov (.tmp 13))⟩, [], []⟩,
         ⟨11, .pure, 0, ⟨(some 92), (some (83, true)), .plain (.iaddr none 2 (.tmp 90) (.tmp 91))⟩, [], []⟩,
         ⟨12, .read, 0, ⟨(some 93), (some (83, true)), .plain (.load (some 2) (.tmp 92))⟩, [], []⟩,
         ⟨13, .chain, 0, ⟨(some 94), (some (83, true)), .callv (.tmp 84) [(.tmp 89), (.tmp 93)]⟩, [], []⟩,
         ⟨14, .pure, 0, ⟨(some 95), (some (83, true)), .plain (.bin .lss (.tmp 94) (.const (.int .i64 0)))⟩, [], []⟩,
         ⟨15, .pure, 0, ⟨(some 96), (some (83, true)), .plain (.un .not (.tmp 95))⟩, [], []⟩,
         ⟨16, .pure, 0, ⟨(some 97), none, .plain (.pick (.tmp 83) (.tmp 96) (.const (.bool false)))⟩, [], []⟩])
      (.cond (.tmp 97)
       (.both (.seq [⟨(some 98), none, .plain (.mov (.tmp 0))⟩,
          ⟨(some 99), none, .plain (.mov (.tmp 1))⟩,
          ⟨(some 100), none, .plain (.mov (.tmp 2))⟩,
          ⟨(some 101), none, .plain (.mov (.tmp 13))⟩,
          ⟨(some 102), none, .plain (.mov (.tmp 4))⟩,
          ⟨(some 103), none, .call 125 [(.tmp 98), (.tmp 99), (.tmp 100), (.tmp 101), (.tmp 102)]⟩,
          ⟨(some 15), none, .plain (.mov (.tmp 103))⟩])
       (.both (.seq [⟨(some 104), none, .plain (.mov (.tmp 15))⟩,
          ⟨(some 1), none, .plain (.mov (.tmp 104))⟩])
       (.exit 1)))
       .skip))
     (.both (.seq [⟨(some 106), none, .plain (.mov (.tmp 0))⟩,
        ⟨(some 107), none, .plain (.mov (.tmp 1))⟩,
        ⟨(some 108), none, .plain (.mov (.tmp 2))⟩,
        ⟨(some 109), none, .plain (.mov (.tmp 13))⟩,
        ⟨(some 110), none, .plain (.mov (.tmp 4))⟩,
        ⟨(some 111), none, .call 126 [(.tmp 106), (.tmp 107), (.tmp 108), (.tmp 109), (.tmp 110)]⟩,
        ⟨(some 105), none, .plain (.mov (.tmp 111))⟩,
        ⟨(some 112), none, .plain (.extract (.tmp 105) 0)⟩,
        ⟨(some 113), none, .plain (.extract (.tmp 105) 1)⟩,
        ⟨(some 16), none, .plain (.mov (.tmp 112))⟩,
        ⟨(some 17), none, .plain (.mov (.tmp 113))⟩])
     (.both (.seq [⟨(some 114), none, .plain (.mov (.tmp 17))⟩,
        ⟨(some 11), none, .plain (.mov (.tmp 114))⟩])
     (.both (.seq [⟨(some 115), none, .plain (.mov (.tmp 16))⟩,
        ⟨(some 116), none, .plain (.mov (.tmp 1))⟩,
        ⟨(some 117), none, .plain (.bin .sub (.tmp 115) (.tmp 116))⟩,
        ⟨(some 118), none, .plain (.mov (.tmp 2))⟩,
        ⟨(some 119), none, .plain (.mov (.tmp 16))⟩,
        ⟨(some 120), none, .plain (.bin .sub (.tmp 118) (.tmp 119))⟩,
        ⟨(some 18), none, .plain (.mov (.tmp 117))⟩,
        ⟨(some 19), none, .plain (.mov (.tmp 120))⟩])
     (.both (.seq [⟨(some 121), none, .plain (.mov (.tmp 12))⟩,
        ⟨(some 122), none, .plain (.bin .quo (.tmp 121) (.const (.int .i64 8)))⟩,
        ⟨(some 20), none, .plain (.mov (.tmp 122))⟩])
     (.both (.seq [⟨(some 123), none, .plain (.mov (.tmp 18))⟩,
        ⟨(some 124), none, .plain (.mov (.tmp 19))⟩,
        ⟨(some 125), none, .plain (.bin .lss (.tmp 123) (.tmp 124))⟩])
     (.cond (.tmp 125)
      (.both (.seq [⟨(some 126), none, .plain (.mov (.tmp 18))⟩,
         ⟨(some 127), none, .plain (.mov (.tmp 20))⟩,
         ⟨(some 128), none, .plain (.bin .geq (.tmp 126) (.tmp 127))⟩,
         ⟨(some 10), none, .plain (.mov (.tmp 128))⟩])
      (.both (.seq [⟨(some 129), none, .plain (.mov (.tmp 0))⟩,
         ⟨(some 130), none, .plain (.mov (.tmp 1))⟩,
         ⟨(some 131), none, .plain (.mov (.tmp 16))⟩,
         ⟨(some 132), none, .plain (.mov (.tmp 3))⟩,
         ⟨(some 133), none, .plain (.mov (.tmp 4))⟩,
         ⟨(some 134), none, .call 113 [(.tmp 129), (.tmp 130), (.tmp 131), (.tmp 132), (.tmp 133)]⟩])
      (.seq [⟨(some 135), none, .plain (.mov (.tmp 16))⟩,
        ⟨(some 136), none, .plain (.bin .add (.tmp 135) (.const (.int .i64 1)))⟩,
        ⟨(some 1), none, .plain (.mov (.tmp 136))⟩])))
      (.both (.seq [⟨(some 137), none, .plain (.mov (.tmp 19))⟩,
         ⟨(some 138), none, .plain (.mov (.tmp 20))⟩,
         ⟨(some 139), none, .plain (.bin .geq (.tmp 137) (.tmp 138))⟩,
         ⟨(some 10), none, .plain (.mov (.tmp 139))⟩])
      (.both (.seq [⟨(some 140), none, .plain (.mov (.tmp 0))⟩,
         ⟨(some 141), none, .plain (.mov (.tmp 16))⟩,
         ⟨(some 142), none, .plain (.bin .add (.tmp 141) (.const (.int .i64 1)))⟩,
         ⟨(some 143), none, .plain (.mov (.tmp 2))⟩,
         ⟨(some 144), none, .plain (.mov (.tmp 3))⟩,
         ⟨(some 145), none, .plain (.mov (.tmp 4))⟩,
         ⟨(some 146), none, .call 113 [(.tmp 140), (.tmp 142), (.tmp 143), (.tmp 144), (.tmp 145)]⟩])
      (.seq [⟨(some 147), none, .plain (.mov (.tmp 16))⟩,
        ⟨(some 2), none, .plain (.mov (.tmp 147))⟩]))))))))))))))))))))))⟩
/-- math/bits.Len -/
def a114 : AFunc := ⟨1, [.tmp 2],
  (.both (.seq [⟨(some 2), none, .plain (.mov (.const (.int .i64 0)))⟩])
  (.both (.cond (.const (.bool false))
    (.both (.seq [⟨(some 3), none, .plain (.mov (.tmp 0))⟩,
       ⟨(some 4), none, .plain (.conv (.int .u32) (.tmp 3))⟩,
       ⟨(some 5), none, .call 127 [(.tmp 4)]⟩,
       ⟨(some 2), none, .plain (.mov (.tmp 5))⟩])
    .ret)
    .skip)
  (.both (.seq [⟨(some 6), none, .plain (.mov (.tmp 0))⟩,
     ⟨(some 7), none, .call 128 [(.tmp 6)]⟩,
     ⟨(some 2), none, .plain (.mov (.tmp 7))⟩])
  .ret)))⟩
/-- cmp.isNaN[int64] -/
def a115 : AFunc := ⟨1, [.tmp 2],
  (.both (.seq [⟨(some 2), none, .plain (.mov (.const (.bool false)))⟩])
  (.both (.seq [⟨(some 3), none, .plain (.mov (.tmp 0))⟩,
     ⟨(some 4), none, .plain (.mov (.tmp 0))⟩,
     ⟨(some 5), none, .plain (.bin .neq (.tmp 3) (.tmp 4))⟩,
     ⟨(some 2), none, .plain (.mov (.tmp 5))⟩])
  .ret))⟩
/-- fettle/fettleref01.In -/
def a116 : AFunc := ⟨3, [.tmp 6],
  (.both (.seq [⟨(some 6), none, .plain (.mov (.const (.bool false)))⟩])
  (.both (.seq [⟨(some 7), none, .plain (.mov (.tmp 1))⟩,
     ⟨(some 8), none, .plain (.bin .geq (.tmp 7) (.const (.int .i64 0)))⟩,
     ⟨(some 9), none, .plain (.mov (.tmp 8))⟩,
     ⟨(some 10), (some (9, true)), .plain (.mov (.tmp 2))⟩,
     ⟨(some 11), (some (9, true)), .plain (.bin .geq (.tmp 10) (.const (.int .i64 0)))⟩,
     ⟨(some 12), none, .plain (.pick (.tmp 9) (.tmp 11) (.const (.bool false)))⟩,
     ⟨(some 13), none, .plain (.mov (.tmp 12))⟩,
     ⟨(some 14), (some (13, true)), .plain (.mov (.tmp 1))⟩,
     ⟨(some 15), (some (13, true)), .plain (.mov (.tmp 0))⟩,
     ⟨(some 16), (some (13, true)), .plain (.len .sl (.tmp 15))⟩,
     ⟨(some 17), (some (13, true)), .plain (.bin .leq (.tmp 14) (.tmp 16))⟩,
     ⟨(some 18), none, .plain (.pick (.tmp 13) (.tmp 17) (.const (.bool false)))⟩,
     ⟨(some 19), none, .plain (.mov (.tmp 18))⟩,
     ⟨(some 20), (some (19, true)), .plain (.mov (.tmp 0))⟩,
     ⟨(some 21), (some (19, true)), .plain (.len .sl (.tmp 20))⟩,
     ⟨(some 22), (some (19, true)), .plain (.mov (.tmp 1))⟩,
     ⟨(some 23), (some (19, true)), .plain (.bin .sub (.tmp 21) (.tmp 22))⟩,
     ⟨(some 24), (some (19, true)), .plain (.mov (.tmp 2))⟩,
     ⟨(some 25), (some (19, true)), .plain (.bin .geq (.tmp 23) (.tmp 24))⟩,
     ⟨(some 26), none, .plain (.pick (.tmp 19) (.tmp 25) (.const (.bool false)))⟩,
     ⟨(some 6), none, .plain (.mov (.tmp 26))⟩])
  .ret))⟩
/-- slices.insertionSortCmpFunc[fettle/api.Ext] -/
def a119 : AFunc := ⟨4, [],
  (.both (.seq [⟨(some 10), none, .plain (.mov (.tmp 1))⟩,
     ⟨(some 11), none, .plain (.bin .add (.tmp 10) (.const (.int .i64 1)))⟩,
     ⟨(some 8), none, .plain (.mov (.tmp 11))⟩])
  (.block 0 (.loop (.both (.both (.seq [⟨(some 12), none, .plain (.mov (.tmp 8))⟩,
        ⟨(some 13), none, .plain (.mov (.tmp 2))⟩,
        ⟨(some 14), none, .plain (.bin .lss (.tmp 12) (.tmp 13))⟩])
     (.cond (.tmp 14)
      .skip
      (.exit 0)))
    (.both (.block 1 (.both (.seq [⟨(some 17), none, .plain (.mov (.tmp 8))⟩,
         ⟨(some 9), none, .plain (.mov (.tmp 17))⟩])
      (.block 2 (.loop (.both (.both (.draw 0 [⟨0, .pure, 0, ⟨(some 18), none, .plain (.mov (.tmp 9))⟩, [], []⟩,
            ⟨1, .pure, 0, ⟨(some 19), none, .plain (.mov (.tmp 1))⟩, [], []⟩,
            ⟨2, .pure, 0, ⟨(some 20), none, .plain (.bin .gtr (.tmp 18) (.tmp 19))⟩, [], []⟩,
            ⟨3, .pure, 0, ⟨(some 21), none, .plain (.mov (.tmp 20))⟩, [], []⟩,
            ⟨4, .pure, 0, ⟨(some 22), (some (21, true)), .plain (.mov (.tmp 3))⟩, [], []⟩,
            ⟨5, .pure, 0, ⟨(some 23), (some (21, true)), .plain (.mov (.tmp 0))⟩, [], []⟩,
            ⟨6, .pure, 0, ⟨(some 24), (some (21, true)), .plain (.mov (.tmp 9))⟩, [], []⟩,
            ⟨7, .pure, 0, ⟨(some 25), (some (21, true)), .plain (.iaddr none 2 (.tmp 23) (.tmp 24))⟩, [], []⟩,
            ⟨8, .read, 0, ⟨(some 26), (some (21, true)), .plain (.load (some 2) (.tmp 25))⟩, [], []⟩,
            ⟨9, .pure, 0, ⟨(some 27), (some (21, true)), .plain (.mov (.tmp 0))⟩, [], []⟩,
            ⟨10, .pure, 0, ⟨(some 28), (some (21, true)), .plain (.mov (.tmp 9))⟩, [], []⟩,
            ⟨11, .pure, 0, ⟨(some 29), (some (21, true)), .plain (.bin .sub (.tmp 28) (.const (.int .i64 1)))⟩, [], []⟩,
            ⟨12, .pure, 0, ⟨(some 30), (some (21, true)), .plain (.iaddr none 2 (.tmp 27) (.tmp 29))⟩, [], []⟩,
            ⟨13, .read, 0, ⟨(some 31), (some (21, true)), .plain (.load (some 2) (.tmp 30))⟩, [], []⟩,
            ⟨14, .chain, 0, ⟨(some 32), (some (21, true)), .callv (.tmp 22) [(.tmp 26), (.tmp 31)]⟩, [], []⟩,
            ⟨15, .pure, 0, ⟨(some 33), (some (21, true)), .plain (.bin .lss (.tmp 32) (.const (.int .i64 0)))⟩, [], []⟩,
            ⟨16, .pure, 0, ⟨(some 34), none, .plain (.pick (.tmp 21) (.tmp 33) (.const (.bool false)))⟩, [], []⟩])
         (.cond (.tmp 34)
          .skip
          (.exit 2)))
        (.both (.block 3 (.draw 0 [⟨0, .pure, 0, ⟨(some 37), none, .plain (.mov (.tmp 0))⟩, [], []⟩,
            ⟨1, .pure, 0, ⟨(some 38), none, .plain (.mov (.tmp 9))⟩, [], []⟩,
            ⟨2, .pure, 0, ⟨(some 39), none, .plain (.mov (.tmp 0))⟩, [], []⟩,
            ⟨3, .pure, 0, ⟨(some 40), none, .plain (.mov (.tmp 9))⟩, [], []⟩,
            ⟨4, .pure, 0, ⟨(some 41), none, .plain (.bin .sub (.tmp 40) (.const (.int .i64 1)))⟩, [], []⟩,
            ⟨5, .pure, 0, ⟨(some 42), none, .plain (.mov (.tmp 0))⟩, [], []⟩,
            ⟨6, .pure, 0, ⟨(some 43), none, .plain (.mov (.tmp 9))⟩, [], []⟩,
            ⟨7, .pure, 0, ⟨(some 44), none, .plain (.bin .sub (.tmp 43) (.const (.int .i64 1)))⟩, [], []⟩,
            ⟨8, .pure, 0, ⟨(some 45), none, .plain (.iaddr none 2 (.tmp 42) (.tmp 44))⟩, [], []⟩,
            ⟨9, .read, 0, ⟨(some 46), none, .plain (.load (some 2) (.tmp 45))⟩, [], []⟩,
            ⟨10, .pure, 0, ⟨(some 47), none, .plain (.mov (.tmp 0))⟩, [], []⟩,
            ⟨11, .pure, 0, ⟨(some 48), none, .plain (.mov (.tmp 9))⟩, [], []⟩,
            ⟨12, .pure, 0, ⟨(some 49), none, .plain (.iaddr none 2 (.tmp 47) (.tmp 48))⟩, [], []⟩,
            ⟨13, .read, 0, ⟨(some 50), none, .plain (.load (some 2) (.tmp 49))⟩, [], []⟩,
            ⟨14, .pure, 0, ⟨(some 51), none, .plain (.iaddr none 2 (.tmp 37) (.tmp 38))⟩, [], []⟩,
            ⟨15, .chain, 0, ⟨none, none, .plain (.store 2 (.tmp 51) (.tmp 46))⟩, [], []⟩,
            ⟨16, .pure, 0, ⟨(some 52), none, .plain (.iaddr none 2 (.tmp 39) (.tmp 41))⟩, [], []⟩,
            ⟨17, .chain, 0, ⟨none, none, .plain (.store 2 (.tmp 52) (.tmp 50))⟩, [], []⟩]))
        (.seq [⟨(some 35), none, .plain (.mov (.tmp 9))⟩,
          ⟨(some 36), none, .plain (.bin .sub (.tmp 35) (.const (.int .i64 1)))⟩,
          ⟨(some 9), none, .plain (.mov (.tmp 36))⟩])))))))
    (.seq [⟨(some 15), none, .plain (.mov (.tmp 8))⟩,
      ⟨(some 16), none, .plain (.bin .add (.tmp 15) (.const (.int .i64 1)))⟩,
      ⟨(some 8), none, .plain (.mov (.tmp 16))⟩]))))))⟩
/-- slices.heapSortCmpFunc[fettle/api.Ext] -/
def a120 : AFunc := ⟨4, [],
  (.both (.seq [⟨(some 13), none, .plain (.mov (.tmp 1))⟩,
     ⟨(some 8), none, .plain (.mov (.tmp 13))⟩])
  (.both (.seq [⟨(some 9), none, .plain (.mov (.const (.int .i64 0)))⟩])
  (.both (.seq [⟨(some 14), none, .plain (.mov (.tmp 2))⟩,
     ⟨(some 15), none, .plain (.mov (.tmp 1))⟩,
     ⟨(some 16), none, .plain (.bin .sub (.tmp 14) (.tmp 15))⟩,
     ⟨(some 10), none, .plain (.mov (.tmp 16))⟩])
  (.both (.both (.seq [⟨(some 17), none, .plain (.mov (.tmp 10))⟩,
      ⟨(some 18), none, .plain (.bin .sub (.tmp 17) (.const (.int .i64 1)))⟩,
      ⟨(some 19), none, .plain (.bin .quo (.tmp 18) (.const (.int .i64 2)))⟩,
      ⟨(some 11), none, .plain (.mov (.tmp 19))⟩])
   (.block 0 (.loop (.both (.both (.seq [⟨(some 20), none, .plain (.mov (.tmp 11))⟩,
         ⟨(some 21), none, .plain (.bin .geq (.tmp 20) (.const (.int .i64 0)))⟩])
      (.cond (.tmp 21)
       .skip
       (.exit 0)))
     (.both (.block 1 (.seq [⟨(some 24), none, .plain (.mov (.tmp 0))⟩,
         ⟨(some 25), none, .plain (.mov (.tmp 11))⟩,
         ⟨(some 26), none, .plain (.mov (.tmp 10))⟩,
         ⟨(some 27), none, .plain (.mov (.tmp 8))⟩,
         ⟨(some 28), none, .plain (.mov (.tmp 3))⟩,
         ⟨(some 29), none, .call 129 [(.tmp 24), (.tmp 25), (.tmp 26), (.tmp 27), (.tmp 28)]⟩]))
     (.seq [⟨(some 22), none, .plain (.mov (.tmp 11))⟩,
       ⟨(some 23), none, .plain (.bin .sub (.tmp 22) (.const (.int .i64 1)))⟩,
       ⟨(some 11), none, .plain (.mov (.tmp 23))⟩]))))))
  (.both (.seq [⟨(some 30), none, .plain (.mov (.tmp 10))⟩,
     ⟨(some 31), none, .plain (.bin .sub (.tmp 30) (.const (.int .i64 1)))⟩,
     ⟨(some 12), none, .plain (.mov (.tmp 31))⟩])
  (.block 2 (.loop (.both (.both (.seq [⟨(some 32), none, .plain (.mov (.tmp 12))⟩,
        ⟨(some 33), none, .plain (.bin .geq (.tmp 32) (.const (.int .i64 0)))⟩])
     (.cond (.tmp 33)
      .skip
      (.exit 2)))
    (.both (.block 3 (.both (.draw 0 [⟨0, .pure, 0, ⟨(some 36), none, .plain (.mov (.tmp 0))⟩, [], []⟩,
         ⟨1, .pure, 0, ⟨(some 37), none, .plain (.mov (.tmp 8))⟩, [], []⟩,
         ⟨2, .pure, 0, ⟨(some 38), none, .plain (.mov (.tmp 0))⟩, [], []⟩,
         ⟨3, .pure, 0, ⟨(some 39), none, .plain (.mov (.tmp 8))⟩, [], []⟩,
         ⟨4, .pure, 0, ⟨(some 40), none, .plain (.mov (.tmp 12))⟩, [], []⟩,
         ⟨5, .pure, 0, ⟨(some 41), none, .plain (.bin .add (.tmp 39) (.tmp 40))⟩, [], []⟩,
         ⟨6, .pure, 0, ⟨(some 42), none, .plain (.mov (.tmp 0))⟩, [], []⟩,
         ⟨7, .pure, 0, ⟨(some 43), none, .plain (.mov (.tmp 8))⟩, [], []⟩,
         ⟨8, .pure, 0, ⟨(some 44), none, .plain (.mov (.tmp 12))⟩, [], []⟩,
         ⟨9, .pure, 0, ⟨(some 45), none, .plain (.bin .add (.tmp 43) (.tmp 44))⟩, [], []⟩,
         ⟨10, .pure, 0, ⟨(some 46), none, .plain (.iaddr none 2 (.tmp 42) (.tmp 45))⟩, [], []⟩,
         ⟨11, .read, 0, ⟨(some 47), none, .plain (.load (some 2) (.tmp 46))⟩, [], []⟩,
         ⟨12, .pure, 0, ⟨(some 48), none, .plain (.mov (.tmp 0))⟩, [], []⟩,
         ⟨13, .pure, 0, ⟨(some 49), none, .plain (.mov (.tmp 8))⟩, [], []⟩,
         ⟨14, .pure, 0, ⟨(some 50), none, .plain (.iaddr none 2 (.tmp 48) (.tmp 49))⟩, [], []⟩,
         ⟨15, .read, 0, ⟨(some 51), none, .plain (.load (some 2) (.tmp 50))⟩, [], []⟩,
         ⟨16, .pure, 0, ⟨(some 52), none, .plain (.iaddr none 2 (.tmp 36) (.tmp 37))⟩, [], []⟩,
         ⟨17, .chain, 0, ⟨none, none, .plain (.store 2 (.tmp 52) (.tmp 47))⟩, [], []⟩,
         ⟨18, .pure, 0, ⟨(some 53), none, .plain (.iaddr none 2 (.tmp 38) (.tmp 41))⟩, [], []⟩,
         ⟨19, .chain, 0, ⟨none, none, .plain (.store 2 (.tmp 53) (.tmp 51))⟩, [], []⟩])
      (.seq [⟨(some 54), none, .plain (.mov (.tmp 0))⟩,
        ⟨(some 55), none, .plain (.mov (.tmp 9))⟩,
        ⟨(some 56), none, .plain (.mov (.tmp 12))⟩,
        ⟨(some 57), none, .plain (.mov (.tmp 8))⟩,
        ⟨(some 58), none, .plain (.mov (.tmp 3))⟩,
        ⟨(some 59), none, .call 129 [(.tmp 54), (.tmp 55), (.tmp 56), (.tmp 57), (.tmp 58)]⟩])))
    (.seq [⟨(some 34), none, .plain (.mov (.tmp 12))⟩,
      ⟨(some 35), none, .plain (.bin .sub (.tmp 34) (.const (.int .i64 1)))⟩,
      ⟨(some 12), none, .plain (.mov (.tmp 35))⟩]))))))))))⟩
/-- slices.breakPatternsCmpFunc[fettle/api.Ext] -/
def a121 : AFunc := ⟨4, [],
  (.both (.seq [⟨(some 13), none, .plain (.mov (.tmp 2))⟩,
     ⟨(some 14), none, .plain (.mov (.tmp 1))⟩,
     ⟨(some 15), none, .plain (.bin .sub (.tmp 13) (.tmp 14))⟩,
     ⟨(some 8), none, .plain (.mov (.tmp 15))⟩])
  (.both (.seq [⟨(some 16), none, .plain (.mov (.tmp 8))⟩,
     ⟨(some 17), none, .plain (.bin .geq (.tmp 16) (.const (.int .i64 8)))⟩])
  (.cond (.tmp 17)
   (.both (.seq [⟨(some 18), none, .plain (.mov (.tmp 8))⟩,
      ⟨(some 19), none, .plain (.conv (.int .u64) (.tmp 18))⟩,
      ⟨(some 9), none, .plain (.alloc [(.int .u64 0)])⟩,
      ⟨none, none, .plain (.store 1 (.tmp 9) (.tmp 19))⟩])
   (.both (.seq [⟨(some 20), none, .plain (.mov (.tmp 8))⟩,
      ⟨(some 21), none, .call 130 [(.tmp 20)]⟩,
      ⟨(some 10), none, .plain (.mov (.tmp 21))⟩])
   (.both (.seq [⟨(some 22), none, .plain (.mov (.tmp 1))⟩,
      ⟨(some 23), none, .plain (.mov (.tmp 8))⟩,
      ⟨(some 24), none, .plain (.bin .quo (.tmp 23) (.const (.int .i64 4)))⟩,
      ⟨(some 25), none, .plain (.bin .mul (.tmp 24) (.const (.int .i64 2)))⟩,
      ⟨(some 26), none, .plain (.bin .add (.tmp 22) (.tmp 25))⟩,
      ⟨(some 27), none, .plain (.bin .sub (.tmp 26) (.const (.int .i64 1)))⟩,
      ⟨(some 11), none, .plain (.mov (.tmp 27))⟩])
   (.block 0 (.loop (.both (.both (.seq [⟨(some 28), none, .plain (.mov (.tmp 11))⟩,
         ⟨(some 29), none, .plain (.mov (.tmp 1))⟩,
         ⟨(some 30), none, .plain (.mov (.tmp 8))⟩,
         ⟨(some 31), none, .plain (.bin .quo (.tmp 30) (.const (.int .i64 4)))⟩,
         ⟨(some 32), none, .plain (.bin .mul (.tmp 31) (.const (.int .i64 2)))⟩,
         ⟨(some 33), none, .plain (.bin .add (.tmp 29) (.tmp 32))⟩,
         ⟨(some 34), none, .plain (.bin .add (.tmp 33) (.const (.int .i64 1)))⟩,
         ⟨(some 35), none, .plain (.bin .leq (.tmp 28) (.tmp 34))⟩])
      (.cond (.tmp 35)
       .skip
       (.exit 0)))
     (.both (.block 1 (.both (.seq [⟨(some 38), none, .call 131 [(.tmp 9)]⟩,
          ⟨(some 39), none, .plain (.mov (.tmp 10))⟩,
          ⟨(some 40), none, .plain (.bin .sub (.tmp 39) (.const (.int .u64 1)))⟩,
          ⟨(some 41), none, .plain (.bin .and (.tmp 38) (.tmp 40))⟩,
          ⟨(some 42), none, .plain (.conv (.int .i64) (.tmp 41))⟩,
          ⟨(some 12), none, .plain (.mov (.tmp 42))⟩])
       (.both (.both (.seq [⟨(some 43), none, .plain (.mov (.tmp 12))⟩,
           ⟨(some 44), none, .plain (.mov (.tmp 8))⟩,
           ⟨(some 45), none, .plain (.bin .geq (.tmp 43) (.tmp 44))⟩])
        (.cond (.tmp 45)
         (.seq [⟨(some 46), none, .plain (.mov (.tmp 12))⟩,
           ⟨(some 47), none, .plain (.mov (.tmp 8))⟩,
           ⟨(some 48), none, .plain (.bin .sub (.tmp 46) (.tmp 47))⟩,
           ⟨(some 12), none, .plain (.mov (.tmp 48))⟩])
         .skip))
       (.draw 0 [⟨0, .pure, 0, ⟨(some 49), none, .plain (.mov (.tmp 0))⟩, [], []⟩,
         ⟨1, .pure, 0, ⟨(some 50), none, .plain (.mov (.tmp 11))⟩, [], []⟩,
         ⟨2, .pure, 0, ⟨(some 51), none, .plain (.mov (.tmp 0))⟩, [], []⟩,
         ⟨3, .pure, 0, ⟨(some 52), none, .plain (.mov (.tmp 1))⟩, [], []⟩,
         ⟨4, .pure, 0, ⟨(some 53), none, .plain (.mov (.tmp 12))⟩, [], []⟩,
         ⟨5, .pure, 0, ⟨(some 54), none, .plain (.bin .add (.tmp 52) (.tmp 53))⟩, [], []⟩,
         ⟨6, .pure, 0, ⟨(some 55), none, .plain (.mov (.tmp 0))⟩, [], []⟩,
         ⟨7, .pure, 0, ⟨(some 56), none, .plain (.mov (.tmp 1))⟩, [], []⟩,
         ⟨8, .pure, 0, ⟨(some 57), none, .plain (.mov (.tmp 12))⟩, [], []⟩,
         ⟨9, .pure, 0, ⟨(some 58), none, .plain (.bin .add (.tmp 56) (.tmp 57))⟩, [], []⟩,
         ⟨10, .pure, 0, ⟨(some 59), none, .plain (.iaddr none 2 (.tmp 55) (.tmp 58))⟩, [], []⟩,
         ⟨11, .read, 0, ⟨(some 60), none, .plain (.load (some 2) (.tmp 59))⟩, [], []⟩,
         ⟨12, .pure, 0, ⟨(some 61), none, .plain (.mov (.tmp 0))⟩, [], []⟩,
         ⟨13, .pure, 0, ⟨(some 62), none, .plain (.mov (.tmp 11))⟩, [], []⟩,
         ⟨14, .pure, 0, ⟨(some 63), none, .plain (.iaddr none 2 (.tmp 61) (.tmp 62))⟩, [], []⟩,
         ⟨15, .read, 0, ⟨(some 64), none, .plain (.load (some 2) (.tmp 63))⟩, [], []⟩,
         ⟨16, .pure, 0, ⟨(some 65), none, .plain (.iaddr none 2 (.tmp 49) (.tmp 50))⟩, [], []⟩,
         ⟨17, .chain, 0, ⟨none, none, .plain (.store 2 (.tmp 65) (.tmp 60))⟩, [], []⟩,
         ⟨18, .pure, 0, ⟨(some 66), none, .plain (.iaddr none 2 (.tmp 51) (.tmp 54))⟩, [], []⟩,
         ⟨19, .chain, 0, ⟨none, none, .plain (.store 2 (.tmp 66) (.tmp 64))⟩, [], []⟩]))))
     (.seq [⟨(some 36), none, .plain (.mov (.tmp 11))⟩,
       ⟨(some 37), none, .plain (.bin .add (.tmp 36) (.const (.int .i64 1)))⟩,
       ⟨(some 11), none, .plain (.mov (.tmp 37))⟩]))))))))
   .skip)))⟩
/-- slices.choosePivotCmpFunc[fettle/api.Ext] -/
def a122 : AFunc := ⟨4, [.tmp 8, .tmp 9],
  (.both (.seq [⟨(some 8), none, .plain (.mov (.const (.int .i64 0)))⟩,
     ⟨(some 9), none, .plain (.mov (.const (.int .i64 0)))⟩])
  (.both (.seq [⟨(some 15), none, .plain (.mov (.tmp 2))⟩,
     ⟨(some 16), none, .plain (.mov (.tmp 1))⟩,
     ⟨(some 17), none, .plain (.bin .sub (.tmp 15) (.tmp 16))⟩,
     ⟨(some 10), none, .plain (.mov (.tmp 17))⟩])
  (.both (.seq [⟨(some 11), none, .plain (.alloc [(.int .i64 0)])⟩])
  (.both (.seq [⟨(some 18), none, .plain (.mov (.tmp 1))⟩,
     ⟨(some 19), none, .plain (.mov (.tmp 10))⟩,
     ⟨(some 20), none, .plain (.bin .quo (.tmp 19) (.const (.int .i64 4)))⟩,
     ⟨(some 21), none, .plain (.bin .mul (.tmp 20) (.const (.int .i64 1)))⟩,
     ⟨(some 22), none, .plain (.bin .add (.tmp 18) (.tmp 21))⟩,
     ⟨(some 12), none, .plain (.mov (.tmp 22))⟩])
  (.both (.seq [⟨(some 23), none, .plain (.mov (.tmp 1))⟩,
     ⟨(some 24), none, .plain (.mov (.tmp 10))⟩,
     ⟨(some 25), none, .plain (.bin .quo (.tmp 24) (.const (.int .i64 4)))⟩,
     ⟨(some 26), none, .plain (.bin .mul (.tmp 25) (.const (.int .i64 2)))⟩,
     ⟨(some 27), none, .plain (.bin .add (.tmp 23) (.tmp 26))⟩,
     ⟨(some 13), none, .plain (.mov (.tmp 27))⟩])
  (.both (.seq [⟨(some 28), none, .plain (.mov (.tmp 1))⟩,
     ⟨(some 29), none, .plain (.mov (.tmp 10))⟩,
     ⟨(some 30), none, .plain (.bin .quo (.tmp 29) (.const (.int .i64 4)))⟩,
     ⟨(some 31), none, .plain (.bin .mul (.tmp 30) (.const (.int .i64 3)))⟩,
     ⟨(some 32), none, .plain (.bin .add (.tmp 28) (.tmp 31))⟩,
     ⟨(some 14), none, .plain (.mov (.tmp 32))⟩])
  (.both (.both (.seq [⟨(some 33), none, .plain (.mov (.tmp 10))⟩,
      ⟨(some 34), none, .plain (.bin .geq (.tmp 33) (.const (.int .i64 8)))⟩])
   (.cond (.tmp 34)
    (.both (.both (.seq [⟨(some 35), none, .plain (.mov (.tmp 10))⟩,
        ⟨(some 36), none, .plain (.bin .geq (.tmp 35) (.const (.int .i64 50)))⟩])
     (.cond (.tmp 36)
      (.both (.seq [⟨(some 37), none, .plain (.mov (.tmp 0))⟩,
         ⟨(some 38), none, .plain (.mov (.tmp 12))⟩,
         ⟨(some 39), none, .plain (.mov (.tmp 3))⟩,
         ⟨(some 40), none, .call 132 [(.tmp 37), (.tmp 38), (.tmp 11), (.tmp 39)]⟩,
         ⟨(some 12), none, .plain (.mov (.tmp 40))⟩])
      (.both (.seq [⟨(some 41), none, .plain (.mov (.tmp 0))⟩,
         ⟨(some 42), none, .plain (.mov (.tmp 13))⟩,
         ⟨(some 43), none, .plain (.mov (.tmp 3))⟩,
         ⟨(some 44), none, .call 132 [(.tmp 41), (.tmp 42), (.tmp 11), (.tmp 43)]⟩,
         ⟨(some 13), none, .plain (.mov (.tmp 44))⟩])
      (.seq [⟨(some 45), none, .plain (.mov (.tmp 0))⟩,
        ⟨(some 46), none, .plain (.mov (.tmp 14))⟩,
        ⟨(some 47), none, .plain (.mov (.tmp 3))⟩,
        ⟨(some 48), none, .call 132 [(.tmp 45), (.tmp 46), (.tmp 11), (.tmp 47)]⟩,
        ⟨(some 14), none, .plain (.mov (.tmp 48))⟩])))
      .skip))
    (.seq [⟨(some 49), none, .plain (.mov (.tmp 0))⟩,
      ⟨(some 50), none, .plain (.mov (.tmp 12))⟩,
      ⟨(some 51), none, .plain (.mov (.tmp 13))⟩,
      ⟨(some 52), none, .plain (.mov (.tmp 14))⟩,
      ⟨(some 53), none, .plain (.mov (.tmp 3))⟩,
      ⟨(some 54), none, .call 133 [(.tmp 49), (.tmp 50), (.tmp 51), (.tmp 52), (.tmp 11), (.tmp 53)]⟩,
      ⟨(some 13), none, .plain (.mov (.tmp 54))⟩]))
    .skip))
  (.both (.seq [⟨(some 55), none, .plain (.load none (.tmp 11))⟩])
  (.block 0 (.both (.seq [⟨(some 58), none, .plain (.bin .eql (.tmp 55) (.const (.int .i64 0)))⟩,
      ⟨(some 57), none, .plain (.mov (.tmp 58))⟩])
   (.cond (.tmp 57)
    (.both (.seq [⟨(some 59), none, .plain (.mov (.tmp 13))⟩,
       ⟨(some 8), none, .plain (.mov (.tmp 59))⟩,
       ⟨(some 9), none, .plain (.mov (.const (.int .i64 1)))⟩])
    .ret)
    (.both (.seq [⟨(some 61), none, .plain (.bin .eql (.tmp 55) (.const (.int .i64 12)))⟩,
       ⟨(some 60), none, .plain (.mov (.tmp 61))⟩])
    (.cond (.tmp 60)
     (.both (.seq [⟨(some 62), none, .plain (.mov (.tmp 13))⟩,
        ⟨(some 8), none, .plain (.mov (.tmp 62))⟩,
        ⟨(some 9), none, .plain (.mov (.const (.int .i64 2)))⟩])
     .ret)
     (.both (.seq [⟨(some 56), none, .plain (.mov (.tmp 13))⟩,
        ⟨(some 8), none, .plain (.mov (.tmp 56))⟩,
        ⟨(some 9), none, .plain (.mov (.const (.int .i64 0)))⟩])
     .ret))))))))))))))⟩
/-- slices.reverseRangeCmpFunc[fettle/api.Ext] -/
def a123 : AFunc := ⟨4, [],
  (.both (.seq [⟨(some 10), none, .plain (.mov (.tmp 1))⟩,
     ⟨(some 8), none, .plain (.mov (.tmp 10))⟩])
  (.both (.seq [⟨(some 11), none, .plain (.mov (.tmp 2))⟩,
     ⟨(some 12), none, .plain (.bin .sub (.tmp 11) (.const (.int .i64 1)))⟩,
     ⟨(some 9), none, .plain (.mov (.tmp 12))⟩])
  (.block 0 (.loop (.both (.both (.seq [⟨(some 13), none, .plain (.mov (.tmp 8))⟩,
        ⟨(some 14), none, .plain (.mov (.tmp 9))⟩,
        ⟨(some 15), none, .plain (.bin .lss (.tmp 13) (.tmp 14))⟩])
     (.cond (.tmp 15)
      .skip
      (.exit 0)))
    (.block 1 (.both (.draw 0 [⟨0, .pure, 0, ⟨(some 16), none, .plain (.mov (.tmp 0))⟩, [], []⟩,
        ⟨1, .pure, 0, ⟨(some 17), none, .plain (.mov (.tmp 8))⟩, [], []⟩,
        ⟨2, .pure, 0, ⟨(some 18), none, .plain (.mov (.tmp 0))⟩, [], []⟩,
        ⟨3, .pure, 0, ⟨(some 19), none, .plain (.mov (.tmp 9))⟩, [], []⟩,
        ⟨4, .pure, 0, ⟨(some 20), none, .plain (.mov (.tmp 0))⟩, [], []⟩,
        ⟨5, .pure, 0, ⟨(some 21), none, .plain (.mov (.tmp 9))⟩, [], []⟩,
        ⟨6, .pure, 0, ⟨(some 22), none, .plain (.iaddr none 2 (.tmp 20) (.tmp 21))⟩, [], []⟩,
        ⟨7, .read, 0, ⟨(some 23), none, .plain (.load (some 2) (.tmp 22))⟩, [], []⟩,
        ⟨8, .pure, 0, ⟨(some 24), none, .plain (.mov (.tmp 0))⟩, [], []⟩,
        ⟨9, .pure, 0, ⟨(some 25), none, .plain (.mov (.tmp 8))⟩, [], []⟩,
        ⟨10, .pure, 0, ⟨(some 26), none, .plain (.iaddr none 2 (.tmp 24) (.tmp 25))⟩, [], []⟩,
        ⟨11, .read, 0, ⟨(some 27), none, .plain (.load (some 2) (.tmp 26))⟩, [], []⟩,
        ⟨12, .pure, 0, ⟨(some 28), none, .plain (.iaddr none 2 (.tmp 16) (.tmp 17))⟩, [], []⟩,
        ⟨13, .chain, 0, ⟨none, none, .plain (.store 2 (.tmp 28) (.tmp 23))⟩, [], []⟩,
        ⟨14, .pure, 0, ⟨(some 29), none, .plain (.iaddr none 2 (.tmp 18) (.tmp 19))⟩, [], []⟩,
        ⟨15, .chain, 0, ⟨none, none, .plain (.store 2 (.tmp 29) (.tmp 27))⟩, [], []⟩])
     (.both (.seq [⟨(some 30), none, .plain (.mov (.tmp 8))⟩,
        ⟨(some 31), none, .plain (.bin .add (.tmp 30) (.const (.int .i64 1)))⟩,
        ⟨(some 8), none, .plain (.mov (.tmp 31))⟩])
     (.seq [⟨(some 32), none, .plain (.mov (.tmp 9))⟩,
       ⟨(some 33), none, .plain (.bin .sub (.tmp 32) (.const (.int .i64 1)))⟩,
       ⟨(some 9), none, .plain (.mov (.tmp 33))⟩])))))))))⟩
/-- slices.partialInsertionSortCmpFunc[fettle/api.Ext] -/
def a124 : AFunc := ⟨4, [.tmp 8],
  (.both (.seq [⟨(some 8), none, .plain (.mov (.const (.bool false)))⟩])
  (.both (.seq [⟨(some 13), none, .plain (.mov (.tmp 1))⟩,
     ⟨(some 14), none, .plain (.bin .add (.tmp 13) (.const (.int .i64 1)))⟩,
     ⟨(some 9), none, .plain (.mov (.tmp 14))⟩])
  (.both (.both (.seq [⟨(some 10), none, .plain (.mov (.const (.int .i64 0)))⟩])
   (.block 0 (.loop (.both (.both (.seq [⟨(some 15), none, .plain (.mov (.tmp 10))⟩,
         ⟨(some 16), none, .plain (.bin .lss (.tmp 15) (.const (.int .i64 5)))⟩])
      (.cond (.tmp 16)
       .skip
       (.exit 0)))
     (.both (.block 1 (.both (.block 2 (.loop (.both (.both (.draw 0 [⟨0, .pure, 0, ⟨(some 19), none, .plain (.mov (.tmp 9))⟩, [], []⟩,
              ⟨1, .pure, 0, ⟨(some 20), none, .plain (.mov (.tmp 2))⟩, [], []⟩,
              ⟨2, .pure, 0, ⟨(some 21), none, .plain (.bin .lss (.tmp 19) (.tmp 20))⟩, [], []⟩,
              ⟨3, .pure, 0, ⟨(some 22), none, .plain (.mov (.tmp 21))⟩, [], []⟩,
              ⟨4, .pure, 0, ⟨(some 23), (some (22, true)), .plain (.mov (.tmp 3))⟩, [], []⟩,
              ⟨5, .pure, 0, ⟨(some 24), (some (22, true)), .plain (.mov (.tmp 0))⟩, [], []⟩,
              ⟨6, .pure, 0, ⟨(some 25), (some (22, true)), .plain (.mov (.tmp 9))⟩, [], []⟩,
              ⟨7, .pure, 0, ⟨(some 26), (some (22, true)), .plain (.iaddr none 2 (.tmp 24) (.tmp 25))⟩, [], []⟩,
              ⟨8, .read, 0, ⟨(some 27), (some (22, true)), .plain (.load (some 2) (.tmp 26))⟩, [], []⟩,
              ⟨9, .pure, 0, ⟨(some 28), (some (22, true)), .plain (.mov (.tmp 0))⟩, [], []⟩,
              ⟨10, .pure, 0, ⟨(some 29), (some (22, true)), .plain (.mov (.tmp 9))⟩, [], []⟩,
              ⟨11, .pure, 0, ⟨(some 30), (some (22, true)), .plain (.bin .sub (.tmp 29) (.const (.int .i64 1)))⟩, [], []⟩,
              ⟨12, .pure, 0, ⟨(some 31), (some (22, true)), .plain (.iaddr none 2 (.tmp 28) (.tmp 30))⟩, [], []⟩,
              ⟨13, .read, 0, ⟨(some 32), (some (22, true)), .plain (.load (some 2) (.tmp 31))⟩, [], []⟩,
              ⟨14, .chain, 0, ⟨(some 33), (some (22, true)), .callv (.tmp 23) [(.tmp 27), (.tmp 32)]⟩, [], []⟩,
              ⟨15, .pure, 0, ⟨(some 34), (some (22, true)), .plain (.bin .lss (.tmp 33) (.const (.int .i64 0)))⟩, [], []⟩,
              ⟨16, .pure, 0, ⟨(some 35), (some (22, true)), .plain (.un .not (.tmp 34))⟩, [], []⟩,
              ⟨17, .pure, 0, ⟨(some 36), none, .plain (.pick (.tmp 22) (.tmp 35) (.const (.bool false)))⟩, [], []⟩])
           (.cond (.tmp 36)
            .skip
            (.exit 2)))
          (.block 3 (.seq [⟨(some 37), none, .plain (.mov (.tmp 9))⟩,
             ⟨(some 38), none, .plain (.bin .add (.tmp 37) (.const (.int .i64 1)))⟩,
             ⟨(some 9), none, .plain (.mov (.tmp 38))⟩])))))
       (.both (.both (.seq [⟨(some 39), none, .plain (.mov (.tmp 9))⟩,
           ⟨(some 40), none, .plain (.mov (.tmp 2))⟩,
           ⟨(some 41), none, .plain (.bin .eql (.tmp 39) (.tmp 40))⟩])
        (.cond (.tmp 41)
         (.both (.seq [⟨(some 8), none, .plain (.mov (.const (.bool true)))⟩])
         .ret)
         .skip))
       (.both (.both (.seq [⟨(some 42), none, .plain (.mov (.tmp 2))⟩,
           ⟨(some 43), none, .plain (.mov (.tmp 1))⟩,
           ⟨(some 44), none, .plain (.bin .sub (.tmp 42) (.tmp 43))⟩,
           ⟨(some 45), none, .plain (.bin .lss (.tmp 44) (.const (.int .i64 50)))⟩])
        (.cond (.tmp 45)
         (.both (.seq [⟨(some 8), none, .plain (.mov (.const (.bool false)))⟩])
         .ret)
         .skip))
       (.both (.draw 0 [⟨0, .pure, 0, ⟨(some 46), none, .plain (.mov (.tmp 0))⟩, [], []⟩,
          ⟨1, .pure, 0, ⟨(some 47), none, .plain (.mov (.tmp 9))⟩, [], []⟩,
          ⟨2, .pure, 0, ⟨(some 48), none, .plain (.mov (.tmp 0))⟩, [], []⟩,
          ⟨3, .pure, 0, ⟨(some 49), none, .plain (.mov (.tmp 9))⟩, [], []⟩,
          ⟨4, .pure, 0, ⟨(some 50), none, .plain (.bin .sub (.tmp 49) (.const (.int .i64 1)))⟩, [], []⟩,
          ⟨5, .pure, 0, ⟨(some 51), none, .plain (.mov (.tmp 0))⟩, [], []⟩,
          ⟨6, .pure, 0, ⟨(some 52), none, .plain (.mov (.tmp 9))⟩, [], []⟩,
          ⟨7, .pure, 0, ⟨(some 53), none, .plain (.bin .sub (.tmp 52) (.const (.int .i64 1)))⟩, [], []⟩,
          ⟨8, .pure, 0, ⟨(some 54), none, .plain (.iaddr none 2 (.tmp 51) (.tmp 53))⟩, [], []⟩,
          ⟨9, .read, 0, ⟨(some 55), none, .plain (.load (some 2) (.tmp 54))⟩, [], []⟩,
          ⟨10, .pure, 0, ⟨(some 56), none, .plain (.mov (.tmp 0))⟩, [], []⟩,
          ⟨11, .pure, 0, ⟨(some 57), none, .plain (.mov (.tmp 9))⟩, [], []⟩,
          ⟨12, .pure, 0, ⟨(some 58), none, .plain (.iaddr none 2 (.tmp 56) (.tmp 57))⟩, [], []⟩,
          ⟨13, .read, 0, ⟨(some 59), none, .plain (.load (some 2) (.tmp 58))⟩, [], []⟩,
          ⟨14, .pure, 0, ⟨(some 60), none, .plain (.iaddr none 2 (.tmp 46) (.tmp 47))⟩, [], []⟩,
          ⟨15, .chain, 0, ⟨none, none, .plain (.store 2 (.tmp 60) (.tmp 55))⟩, [], []⟩,
          ⟨16, .pure, 0, ⟨(some 61), none, .plain (.iaddr none 2 (.tmp 48) (.tmp 50))⟩, [], []⟩,
          ⟨17, .chain, 0, ⟨none, none, .plain (.store 2 (.tmp 61) (.tmp 59))⟩, [], []⟩])
       (.both (.both (.seq [⟨(some 62), none, .plain (.mov (.tmp 9))⟩,
           ⟨(some 63), none, .plain (.mov (.tmp 1))⟩,
           ⟨(some 64), none, .plain (.bin .sub (.tmp 62) (.tmp 63))⟩,
           ⟨(some 65), none, .plain (.bin .geq (.tmp 64) (.const (.int .i64 2)))⟩])
        (.cond (.tmp 65)
         (.both (.seq [⟨(some 66), none, .plain (.mov (.tmp 9))⟩,
            ⟨(some 67), none, .plain (.bin .sub (.tmp 66) (.const (.int .i64 1)))⟩,
            ⟨(some 11), none, .plain (.mov (.tmp 67))⟩])
         (.block 4 (.loop (.both (.both (.seq [⟨(some 68), none, .plain (.mov (.tmp 11))⟩,
               ⟨(some 69), none, .plain (.bin .geq (.tmp 68) (.const (.int .i64 1)))⟩])
            (.cond (.tmp 69)
             .skip
             (.exit 4)))
           (.both (.block 5 (.both (.both (.draw 0 [⟨0, .pure, 0, ⟨(some 72), none, .plain (.mov (.tmp 3))⟩, [], []⟩,
                 ⟨1, .pure, 0, ⟨(some 73), none, .plain (.mov (.tmp 0))⟩, [], []⟩,
                 ⟨2, .pure, 0, ⟨(some 74), none, .plain (.mov (.tmp 11))⟩, [], []⟩,
                 ⟨3, .pure, 0, ⟨(some 75), none, .plain (.iaddr none 2 (.tmp 73) (.tmp 74))⟩, [], []⟩,
                 ⟨4, .read, 0, ⟨(some 76), none, .plain (.load (some 2) (.tmp 75))⟩, [], []⟩,
                 ⟨5, .pure, 0, ⟨(some 77), none, .plain (.mov (.tmp 0))⟩, [], []⟩,
                 ⟨6, .pure, 0, ⟨(some 78), none, .plain (.mov (.tmp 11))⟩, [], []⟩,
                 ⟨7, .pure, 0, ⟨(some 79), none, .plain (.bin .sub (.tmp 78) (.const (.int .i64 1)))⟩, [], []⟩,
                 ⟨8, .pure, 0, ⟨(some 80), none, .plain (.iaddr none 2 (.tmp 77) (.tmp 79))⟩, [], []⟩,
                 ⟨9, .read, 0, ⟨(some 81), none, .plain (.load (some 2) (.tmp 80))⟩, [], []⟩,
                 ⟨10, .chain, 0, ⟨(some 82), none, .callv (.tmp 72) [(.tmp 76), (.tmp 81)]⟩, [], []⟩,
                 ⟨11, .pure, 0, ⟨(some 83), none, .plain (.bin .lss (.tmp 82) (.const (.int .i64 0)))⟩, [], []⟩,
                 ⟨12, .pure, 0, ⟨(some 84), none, .plain (.un .not (.tmp 83))⟩, [], []⟩])
              (.cond (.tmp 84)
               (.exit 4)
               .skip))
             (.draw 0 [⟨0, .pure, 0, ⟨(some 85), none, .plain (.mov (.tmp 0))⟩, [], []⟩,
               ⟨1, .pure, 0, ⟨(some 86), none, .plain (.mov (.tmp 11))⟩, [], []⟩,
               ⟨2, .pure, 0, ⟨(some 87), none, .plain (.mov (.tmp 0))⟩, [], []⟩,
               ⟨3, .pure, 0, ⟨(some 88), none, .plain (.mov (.tmp 11))⟩, [], []⟩,
               ⟨4, .pure, 0, ⟨(some 89), none, .plain (.bin .sub (.tmp 88) (.const (.int .i64 1)))⟩, [], []⟩,
               ⟨5, .pure, 0, ⟨(some 90), none, .plain (.mov (.tmp 0))⟩, [], []⟩,
               ⟨6, .pure, 0, ⟨(some 91), none, .plain (.mov (.tmp 11))⟩, [], []⟩,
               ⟨7, .pure, 0, ⟨(some 92), none, .plain (.bin .sub (.tmp 91) (.const (.int .i64 1)))⟩, [], []⟩,
               ⟨8, .pure, 0, ⟨(some 93), none, .plain (.iaddr none 2 (.tmp 90) (.tmp 92))⟩, [], []⟩,
               ⟨9, .read, 0, ⟨(some 94), none, .plain (.load (some 2) (.tmp 93))⟩, [], []⟩,
               ⟨10, .pure, 0, ⟨(some 95), none, .plain (.mov (.tmp 0))⟩, [], []⟩,
               ⟨11, .pure, 0, ⟨(some 96), none, .plain (.mov (.tmp 11))⟩, [], []⟩,
               ⟨12, .pure, 0, ⟨(some 97), none, .plain (.iaddr none 2 (.tmp 95) (.tmp 96))⟩, [], []⟩,
               ⟨13, .read, 0, ⟨(some 98), none, .plain (.load (some 2) (.tmp 97))⟩, [], []⟩,
               ⟨14, .pure, 0, ⟨(some 99), none, .plain (.iaddr none 2 (.tmp 85) (.tmp 86))⟩, [], []⟩,
               ⟨15, .chain, 0, ⟨none, none, .plain (.store 2 (.tmp 99) (.tmp 94))⟩, [], []⟩,
               ⟨16, .pure, 0, ⟨(some 100), none, .plain (.iaddr none 2 (.tmp 87) (.tmp 89))⟩, [], []⟩,
               ⟨17, .chain, 0, ⟨none, none, .plain (.store 2 (.tmp 100) (.tmp 98))⟩, [], []⟩])))
           (.seq [⟨(some 70), none, .plain (.mov (.tmp 11))⟩,
             ⟨(some 71), none, .plain (.bin .sub (.tmp 70) (.const (.int .i64 1)))⟩,
             ⟨(some 11), none, .plain (.mov (.tmp 71))⟩]))))))
         .skip))
       (.both (.seq [⟨(some 101), none, .plain (.mov (.tmp 2))⟩,
          ⟨(some 102), none, .plain (.mov (.tmp 9))⟩,
          ⟨(some 103), none, .plain (.bin .sub (.tmp 101) (.tmp 102))⟩,
          ⟨(some 104), none, .plain (.bin .geq (.tmp 103) (.const (.int .i64 2)))⟩])
       (.cond (.tmp 104)
        (.both (.seq [⟨(some 105), none, .plain (.mov (.tmp 9))⟩,
           ⟨(some 106), none, .plain (.bin .add (.tmp 105) (.const (.int .i64 1)))⟩,
           ⟨(some 12), none, .plain (.mov (.tmp 106))⟩])
        (.block 6 (.loop (.both (.both (.seq [⟨(some 107), none, .plain (.mov (.tmp 12))⟩,
              ⟨(some 108), none, .plain (.mov (.tmp 2))⟩,
              ⟨(some 109), none, .plain (.bin .lss (.tmp 107) (.tmp 108))⟩])
           (.cond (.tmp 109)
            .skip
            (.exit 6)))
          (.both (.block 7 (.both (.both (.draw 0 [⟨0, .pure, 0, ⟨(some 112), none, .plain (.mov (.tmp 3))⟩, [], []⟩,
                ⟨1, .pure, 0, ⟨(some 113), none, .plain (.mov (.tmp 0))⟩, [], []⟩,
                ⟨2, .pure, 0, ⟨(some 114), none, .plain (.mov (.tmp 12))⟩, [], []⟩,
                ⟨3, .pure, 0, ⟨(some 115), none, .plain (.iaddr none 2 (.tmp 113) (.tmp 114))⟩, [], []⟩,
                ⟨4, .read, 0, ⟨(some 116), none, .plain (.load (some 2) (.tmp 115))⟩, [], []⟩,
                ⟨5, .pure, 0, ⟨(some 117), none, .plain (.mov (.tmp 0))⟩, [], []⟩,
                ⟨6, .pure, 0, ⟨(some 118), none, .plain (.mov (.tmp 12))⟩, [], []⟩,
                ⟨7, .pure, 0, ⟨(some 119), none, .plain (.bin .sub (.tmp 118) (.const (.int .i64 1)))⟩, [], []⟩,
                ⟨8, .pure, 0, ⟨(some 120), none, .plain (.iaddr none 2 (.tmp 117) (.tmp 119))⟩, [], []⟩,
                ⟨9, .read, 0, ⟨(some 121), none, .plain (.load (some 2) (.tmp 120))⟩, [], []⟩,
                ⟨10, .chain, 0, ⟨(some 122), none, .callv (.tmp 112) [(.tmp 116), (.tmp 121)]⟩, [], []⟩,
                ⟨11, .pure, 0, ⟨(some 123), none, .plain (.bin .lss (.tmp 122) (.const (.int .i64 0)))⟩, [], []⟩,
                ⟨12, .pure, 0, ⟨(some 124), none, .plain (.un .not (.tmp 123))⟩, [], []⟩])
             (.cond (.tmp 124)
              (.exit 6)
              .skip))
            (.draw 0 [⟨0, .pure, 0, ⟨(some 125), none, .plain (.mov (.tmp 0))⟩, [], []⟩,
              ⟨1, .pure, 0, ⟨(some 126), none, .plain (.mov (.tmp 12))⟩, [], []⟩,
              ⟨2, .pure, 0, ⟨(some 127), none, .plain (.mov (.tmp 0))⟩, [], []⟩,
              ⟨3, .pure, 0, ⟨(some 128), none, .plain (.mov (.tmp 12))⟩, [], []⟩,
              ⟨4, .pure, 0, ⟨(some 129), none, .plain (.bin .sub (.tmp 128) (.const (.int .i64 1)))⟩, [], []⟩,
              ⟨5, .pure, 0, ⟨(some 130), none, .plain (.mov (.tmp 0))⟩, [], []⟩,
              ⟨6, .pure, 0, ⟨(some 131), none, .plain (.mov (.tmp 12))⟩, [], []⟩,
              ⟨7, .pure, 0, ⟨(some 132), none, .plain (.bin .sub (.tmp 131) (.const (.int .i64 1)))⟩, [], []⟩,
              ⟨8, .pure, 0, ⟨(some 133), none, .plain (.iaddr none 2 (.tmp 130) (.tmp 132))⟩, [], []⟩,
              ⟨9, .read, 0, ⟨(some 134), none, .plain (.load (some 2) (.tmp 133))⟩, [], []⟩,
              ⟨10, .pure, 0, ⟨(some 135), none, .plain (.mov (.tmp 0))⟩, [], []⟩,
              ⟨11, .pure, 0, ⟨(some 136), none, .plain (.mov (.tmp 12))⟩, [], []⟩,
              ⟨12, .pure, 0, ⟨(some 137), none, .plain (.iaddr none 2 (.tmp 135) (.tmp 136))⟩, [], []⟩,
              ⟨13, .read, 0, ⟨(some 138), none, .plain (.load (some 2) (.tmp 137))⟩, [], []⟩,
              ⟨14, .pure, 0, ⟨(some 139), none, .plain (.iaddr none 2 (.tmp 125) (.tmp 126))⟩, [], []⟩,
              ⟨15, .chain, 0, ⟨none, none, .plain (.store 2 (.tmp 139) (.tmp 134))⟩, [], []⟩,
              ⟨16, .pure, 0, ⟨(some 140), none, .plain (.iaddr none 2 (.tmp 127) (.tmp 129))⟩, [], []⟩,
              ⟨17, .chain, 0, ⟨none, none, .plain (.store 2 (.tmp 140) (.tmp 138))⟩, [], []⟩])))
          (.seq [⟨(some 110), none, .plain (.mov (.tmp 12))⟩,
            ⟨(some 111), none, .plain (.bin .add (.tmp 110) (.const (.int .i64 1)))⟩,
            ⟨(some 12), none, .plain (.mov (.tmp 111))⟩]))))))
        .skip))))))))
     (.seq [⟨(some 17), none, .plain (.mov (.tmp 10))⟩,
       ⟨(some 18), none, .plain (.bin .add (.tmp 17) (.const (.int .i64 1)))⟩,
       ⟨(some 10), none, .plain (.mov (.tmp 18))⟩]))))))
  (.both (.seq [⟨(some 8), none, .plain (.mov (.const (.bool false)))⟩])
  .ret))))⟩
/-- slices.partitionEqualCmpFunc[fettle/api.Ext] -/
def a125 : AFunc := ⟨5, [.tmp 10],
  (.both (.seq [⟨(some 10), none, .plain (.mov (.const (.int .i64 0)))⟩])
  (.both (.draw 0 [⟨0, .pure, 0, ⟨(some 13), none, .plain (.mov (.tmp 0))⟩, [], []⟩,
     ⟨1, .pure, 0, ⟨(some 14), none, .plain (.mov (.tmp 1))⟩, [], []⟩,
     ⟨2, .pure, 0, ⟨(some 15), none, .plain (.mov (.tmp 0))⟩, [], []⟩,
     ⟨3, .pure, 0, ⟨(some 16), none, .plain (.mov (.tmp 3))⟩, [], []⟩,
     ⟨4, .pure, 0, ⟨(some 17), none, .plain (.mov (.tmp 0))⟩, [], []⟩,
     ⟨5, .pure, 0, ⟨(some 18), none, .plain (.mov (.tmp 3))⟩, [], []⟩,
     ⟨6, .pure, 0, ⟨(some 19), none, .plain (.iaddr none 2 (.tmp 17) (.tmp 18))⟩, [], []⟩,
     ⟨7, .read, 0, ⟨(some 20), none, .plain (.load (some 2) (.tmp 19))⟩, [], []⟩,
     ⟨8, .pure, 0, ⟨(some 21), none, .plain (.mov (.tmp 0))⟩, [], []⟩,
     ⟨9, .pure, 0, ⟨(some 22), none, .plain (.mov (.tmp 1))⟩, [], []⟩,
     ⟨10, .pure, 0, ⟨(some 23), none, .plain (.iaddr none 2 (.tmp 21) (.tmp 22))⟩, [], []⟩,
     ⟨11, .read, 0, ⟨(some 24), none, .plain (.load (some 2) (.tmp 23))⟩, [], []⟩,
     ⟨12, .pure, 0, ⟨(some 25), none, .plain (.iaddr none 2 (.tmp 13) (.tmp 14))⟩, [], []⟩,
     ⟨13, .chain, 0, ⟨none, none, .plain (.store 2 (.tmp 25) (.tmp 20))⟩, [], []⟩,
     ⟨14, .pure, 0, ⟨(some 26), none, .plain (.iaddr none 2 (.tmp 15) (.tmp 16))⟩, [], []⟩,
     ⟨15, .chain, 0, ⟨none, none, .plain (.store 2 (.tmp 26) (.tmp 24))⟩, [], []⟩])
  (.both (.seq [⟨(some 27), none, .plain (.mov (.tmp 1))⟩,
     ⟨(some 28), none, .plain (.bin .add (.tmp 27) (.const (.int .i64 1)))⟩,
     ⟨(some 29), none, .plain (.mov (.tmp 2))⟩,
     ⟨(some 30), none, .plain (.bin .sub (.tmp 29) (.const (.int .i64 1)))⟩,
     ⟨(some 11), none, .plain (.mov (.tmp 28))⟩,
     ⟨(some 12), none, .plain (.mov (.tmp 30))⟩])
  (.both (.block 0 (.loop (.block 1 (.both (.block 2 (.loop (.both (.both (.draw 0 [⟨0, .pure, 0, ⟨(some 31), none, .plain (.mov (.tmp 11))⟩, [], []⟩,
             ⟨1, .pure, 0, ⟨(some 32), none, .plain (.mov (.tmp 12))⟩, [], []⟩,
             ⟨2, .pure, 0, ⟨(some 33), none, .plain (.bin .leq (.tmp 31) (.tmp 32))⟩, [], []⟩,
             ⟨3, .pure, 0, ⟨(some 34), none, .plain (.mov (.tmp 33))⟩, [], []⟩,
             ⟨4, .pure, 0, ⟨(some 35), (some (34, true)), .plain (.mov (.tmp 4))⟩, [], []⟩,
             ⟨5, .pure, 0, ⟨(some 36), (some (34, true)), .plain (.mov (.tmp 0))⟩, [], []⟩,
             ⟨6, .pure, 0, ⟨(some 37), (some (34, true)), .plain (.mov (.tmp 1))⟩, [], []⟩,
             ⟨7, .pure, 0, ⟨(some 38), (some (34, true)), .plain (.iaddr none 2 (.tmp 36) (.tmp 37))⟩, [], []⟩,
             ⟨8, .read, 0, ⟨(some 39), (some (34, true)), .plain (.load (some 2) (.tmp 38))⟩, [], []⟩,
             ⟨9, .pure, 0, ⟨(some 40), (some (34, true)), .plain (.mov (.tmp 0))⟩, [], []⟩,
             ⟨10, .pure, 0, ⟨(some 41), (some (34, true)), .plain (.mov (.tmp 11))⟩, [], []⟩,
             ⟨11, .pure, 0, ⟨(some 42), (some (34, true)), .plain (.iaddr none 2 (.tmp 40) (.tmp 41))⟩, [], []⟩,
             ⟨12, .read, 0, ⟨(some 43), (some (34, true)), .plain (.load (some 2) (.tmp 42))⟩, [], []⟩,
             ⟨13, .chain, 0, ⟨(some 44), (some (34, true)), .callv (.tmp 35) [(.tmp 39), (.tmp 43)]⟩, [], []⟩,
             ⟨14, .pure, 0, ⟨(some 45), (some (34, true)), .plain (.bin .lss (.tmp 44) (.const (.int .i64 0)))⟩, [], []⟩,
             ⟨15, .pure, 0, ⟨(some 46), (some (34, true)), .plain (.un .not (.tmp 45))⟩, [], []⟩,
             ⟨16, .pure, 0, ⟨(some 47), none, .plain (.pick (.tmp 34) (.tmp 46) (.const (.bool false)))⟩, [], []⟩])
          (.cond (.tmp 47)
           .skip
           (.exit 2)))
         (.block 3 (.seq [⟨(some 48), none, .plain (.mov (.tmp 11))⟩,
            ⟨(some 49), none, .plain (.bin .add (.tmp 48) (.const (.int .i64 1)))⟩,
            ⟨(some 11), none, .plain (.mov (.tmp 49))⟩])))))
      (.both (.block 4 (.loop (.both (.both (.draw 0 [⟨0, .pure, 0, ⟨(some 50), none, .plain (.mov (.tmp 11))⟩, [], []⟩,
             ⟨1, .pure, 0, ⟨(some 51), none, .plain (.mov (.tmp 12))⟩, [], []⟩,
             ⟨2, .pure, 0, ⟨(some 52), none, .plain (.bin .leq (.tmp 50) (.tmp 51))⟩, [], []⟩,
             ⟨3, .pure, 0, ⟨(some 53), none, .plain (.mov (.tmp 52))⟩, [], []⟩,
             ⟨4, .pure, 0, ⟨(some 54), (some (53, true)), .plain (.mov (.tmp 4))⟩, [], []⟩,
             ⟨5, .pure, 0, ⟨(some 55), (some (53, true)), .plain (.mov (.tmp 0))⟩, [], []⟩,
             ⟨6, .pure, 0, ⟨(some 56), (some (53, true)), .plain (.mov (.tmp 1))⟩, [], []⟩,
             ⟨7, .pure, 0, ⟨(some 57), (some (53, true)), .plain (.iaddr none 2 (.tmp 55) (.tmp 56))⟩, [], []⟩,
             ⟨8, .read, 0, ⟨(some 58), (some (53, true)), .plain (.load (some 2) (.tmp 57))⟩, [], []⟩,
             ⟨9, .pure, 0, ⟨(some 59), (some (53, true)), .plain (.mov (.tmp 0))⟩, [], []⟩,
             ⟨10, .pure, 0, ⟨(some 60), (some (53, true)), .plain (.mov (.tmp 12))⟩, [], []⟩,
             ⟨11, .pure, 0, ⟨(some 61), (some (53, true)), .plain (.iaddr none 2 (.tmp 59) (.tmp 60))⟩, [], []⟩,
             ⟨12, .read, 0, ⟨(some 62), (some (53, true)), .plain (.load (some 2) (.tmp 61))⟩, [], []⟩,
             ⟨13, .chain, 0, ⟨(some 63), (some (53, true)), .callv (.tmp 54) [(.tmp 58), (.tmp 62)]⟩, [], []⟩,
             ⟨14, .pure, 0, ⟨(some 64), (some (53, true)), .plain (.bin .lss (.tmp 63) (.const (.int .i64 0)))⟩, [], []⟩,
             ⟨15, .pure, 0, ⟨(some 65), none, .plain (.pick (.tmp 53) (.tmp 64) (.const (.bool false)))⟩, [], []⟩])
          (.cond (.tmp 65)
           .skip
           (.exit 4)))
         (.block 5 (.seq [⟨(some 66), none, .plain (.mov (.tmp 12))⟩,
            ⟨(some 67), none, .plain (.bin .sub (.tmp 66) (.const (.int .i64 1)))⟩,
            ⟨(some 12), none, .plain (.mov (.tmp 67))⟩])))))
      (.both (.both (.seq [⟨(some 68), none, .plain (.mov (.tmp 11))⟩,
          ⟨(some 69), none, .plain (.mov (.tmp 12))⟩,
          ⟨(some 70), none, .plain (.bin .gtr (.tmp 68) (.tmp 69))⟩])
       (.cond (.tmp 70)
        (.exit 0)
        .skip))
      (.both (.draw 0 [⟨0, .pure, 0, ⟨(some 71), none, .plain (.mov (.tmp 0))⟩, [], []⟩,
         ⟨1, .pure, 0, ⟨(some 72), none, .plain (.mov (.tmp 11))⟩, [], []⟩,
         ⟨2, .pure, 0, ⟨(some 73), none, .plain (.mov (.tmp 0))⟩, [], []⟩,
         ⟨3, .pure, 0, ⟨(some 74), none, .plain (.mov (.tmp 12))⟩, [], []⟩,
         ⟨4, .pure, 0, ⟨(some 75), none, .plain (.mov (.tmp 0))⟩, [], []⟩,
         ⟨5, .pure, 0, ⟨(some 76), none, .plain (.mov (.tmp 12))⟩, [], []⟩,
         ⟨6, .pure, 0, ⟨(some 77), none, .plain (.iaddr none 2 (.tmp 75) (.tmp 76))⟩, [], []⟩,
         ⟨7, .read, 0, ⟨(some 78), none, .plain (.load (some 2) (.tmp 77))⟩, [], []⟩,
         ⟨8, .pure, 0, ⟨(some 79), none, .plain (.mov (.tmp 0))⟩, [], []⟩,
         ⟨9, .pure, 0, ⟨(some 80), none, .plain (.mov (.tmp 11))⟩, [], []⟩,
         ⟨10, .pure, 0, ⟨(some 81), none, .plain (.iaddr none 2 (.tmp 79) (.tmp 80))⟩, [], []⟩,
         ⟨11, .read, 0, ⟨(some 82), none, .plain (.load (some 2) (.tmp 81))⟩, [], []⟩,
         ⟨12, .pure, 0, ⟨(some 83), none, .plain (.iaddr none 2 (.tmp 71) (.tmp 72))⟩, [], []⟩,
         ⟨13, .chain, 0, ⟨none, none, .plain (.store 2 (.tmp 83) (.tmp 78))⟩, [], []⟩,
         ⟨14, .pure, 0, ⟨(some 84), none, .plain (.iaddr none 2 (.tmp 73) (.tmp 74))⟩, [], []⟩,
         ⟨15, .chain, 0, ⟨none, none, .plain (.store 2 (.tmp 84) (.tmp 82))⟩, [], []⟩])
      (.both (.seq [⟨(some 85), none, .plain (.mov (.tmp 11))⟩,
         ⟨(some 86), none, .plain (.bin .add (.tmp 85) (.const (.int .i64 1)))⟩,
         ⟨(some 11), none, .plain (.mov (.tmp 86))⟩])
      (.seq [⟨(some 87), none, .plain (.mov (.tmp 12))⟩,
        ⟨(some 88), none, .plain (.bin .sub (.tmp 87) (.const (.int .i64 1)))⟩,
        ⟨(some 12), none, .plain (.mov (.tmp 88))⟩])))))))))
  (.both (.seq [⟨(some 89), none, .plain (.mov (.tmp 11))⟩,
     ⟨(some 10), none, .plain (.mov (.tmp 89))⟩])
  .ret)))))⟩
/-- slices.partitionCmpFunc[fettle/api.Ext] -/
def a126 : AFunc := ⟨5, [.tmp 10, .tmp 11],
  (.both (.seq [⟨(some 10), none, .plain (.mov (.const (.int .i64 0)))⟩,
     ⟨(some 11), none, .plain (.mov (.const (.bool false)))⟩])
  (.both (.draw 0 [⟨0, .pure, 0, ⟨(some 14), none, .plain (.mov (.tmp 0))⟩, [], []⟩,
     ⟨1, .pure, 0, ⟨(some 15), none, .plain (.mov (.tmp 1))⟩, [], []⟩,
     ⟨2, .pure, 0, ⟨(some 16), none, .plain (.mov (.tmp 0))⟩, [], []⟩,
     ⟨3, .pure, 0, ⟨(some 17), none, .plain (.mov (.tmp 3))⟩, [], []⟩,
     ⟨4, .pure, 0, ⟨(some 18), none, .plain (.mov (.tmp 0))⟩, [], []⟩,
     ⟨5, .pure, 0, ⟨(some 19), none, .plain (.mov (.tmp 3))⟩, [], []⟩,
     ⟨6, .pure, 0, ⟨(some 20), none, .plain (.iaddr none 2 (.tmp 18) (.tmp 19))⟩, [], []⟩,
     ⟨7, .read, 0, ⟨(some 21), none, .plain (.load (some 2) (.tmp 20))⟩, [], []⟩,
     ⟨8, .pure, 0, ⟨(some 22), none, .plain (.mov (.tmp 0))⟩, [], []⟩,
     ⟨9, .pure, 0, ⟨(some 23), none, .plain (.mov (.tmp 1))⟩, [], []⟩,
     ⟨10, .pure, 0, ⟨(some 24), none, .plain (.iaddr none 2 (.tmp 22) (.tmp 23))⟩, [], []⟩,
     ⟨11, .read, 0, ⟨(some 25), none, .plain (.load (some 2) (.tmp 24))⟩, [], []⟩,
     ⟨12, .pure, 0, ⟨(some 26), none, .plain (.iaddr none 2 (.tmp 14) (.tmp 15))⟩, [], []⟩,
     ⟨13, .chain, 0, ⟨none, none, .plain (.store 2 (.tmp 26) (.tmp 21))⟩, [], []⟩,
     ⟨14, .pure, 0, ⟨(some 27), none, .plain (.iaddr none 2 (.tmp 16) (.tmp 17))⟩, [], []⟩,
     ⟨15, .chain, 0, ⟨none, none, .plain (.store 2 (.tmp 27) (.tmp 25))⟩, [], []⟩])
  (.both (.seq [⟨(some 28), none, .plain (.mov (.tmp 1))⟩,
     ⟨(some 29), none, .plain (.bin .add (.tmp 28) (.const (.int .i64 1)))⟩,
     ⟨(some 30), none, .plain (.mov (.tmp 2))⟩,
     ⟨(some 31), none, .plain (.bin .sub (.tmp 30) (.const (.int .i64 1)))⟩,
     ⟨(some 12), none, .plain (.mov (.tmp 29))⟩,
     ⟨(some 13), none, .plain (.mov (.tmp 31))⟩])
  (.both (.block 0 (.loop (.both (.both (.draw 0 [⟨0, .pure, 0, ⟨(some 32), none, .plain (.mov (.tmp 12))⟩, [], []⟩,
         ⟨1, .pure, 0, ⟨(some 33), none, .plain (.mov (.tmp 13))⟩, [], []⟩,
         ⟨2, .pure, 0, ⟨(some 34), none, .plain (.bin .leq (.tmp 32) (.tmp 33))⟩, [], []⟩,
         ⟨3, .pure, 0, ⟨(some 35), none, .plain (.mov (.tmp 34))⟩, [], []⟩,
         ⟨4, .pure, 0, ⟨(some 36), (some (35, true)), .plain (.mov (.tmp 4))⟩, [], []⟩,
         ⟨5, .pure, 0, ⟨(some 37), (some (35, true)), .plain (.mov (.tmp 0))⟩, [], []⟩,
         ⟨6, .pure, 0, ⟨(some 38), (some (35, true)), .plain (.mov (.tmp 12))⟩, [], []⟩,
         ⟨7, .pure, 0, ⟨(some 39), (some (35, true)), .plain (.iaddr none 2 (.tmp 37) (.tmp 38))⟩, [], []⟩,
         ⟨8, .read, 0, ⟨(some 40), (some (35, true)), .plain (.load (some 2) (.tmp 39))⟩, [], []⟩,
         ⟨9, .pure, 0, ⟨(some 41), (some (35, true)), .plain (.mov (.tmp 0))⟩, [], []⟩,
         ⟨10, .pure, 0, ⟨(some 42), (some (35, true)), .plain (.mov (.tmp 1))⟩, [], []⟩,
         ⟨11, .pure, 0, ⟨(some 43), (some (35, true)), .plain (.iaddr none 2 (.tmp 41) (.tmp 42))⟩, [], []⟩,
         ⟨12, .read, 0, ⟨(some 44), (some (35, true)), .plain (.load (some 2) (.tmp 43))⟩, [], []⟩,
         ⟨13, .chain, 0, ⟨(some 45), (some (35, true)), .callv (.tmp 36) [(.tmp 40), (.tmp 44)]⟩, [], []⟩,
         ⟨14, .pure, 0, ⟨(some 46), (some (35, true)), .plain (.bin .lss (.tmp 45) (.const (.int .i64 0)))⟩, [], []⟩,
         ⟨15, .pure, 0, ⟨(some 47), none, .plain (.pick (.tmp 35) (.tmp 46) (.const (.bool false)))⟩, [], []⟩])
      (.cond (.tmp 47)
       .skip
       (.exit 0)))
     (.block 1 (.seq [⟨(some 48), none, .plain (.mov (.tmp 12))⟩,
        ⟨(some 49), none, .plain (.bin .add (.tmp 48) (.const (.int .i64 1)))⟩,
        ⟨(some 12), none, .plain (.mov (.tmp 49))⟩])))))
  (.both (.block 2 (.loop (.both (.both (.draw 0 [⟨0, .pure, 0, ⟨(some 50), none, .plain (.mov (.tmp 12))⟩, [], []⟩,
         ⟨1, .pure, 0, ⟨(some 51), none, .plain (.mov (.tmp 13))⟩, [], []⟩,
         ⟨2, .pure, 0, ⟨(some 52), none, .plain (.bin .leq (.tmp 50) (.tmp 51))⟩, [], []⟩,
         ⟨3, .pure, 0, ⟨(some 53), none, .plain (.mov (.tmp 52))⟩, [], []⟩,
         ⟨4, .pure, 0, ⟨(some 54), (some (53, true)), .plain (.mov (.tmp 4))⟩, [], []⟩,
         ⟨5, .pure, 0, ⟨(some 55), (some (53, true)), .plain (.mov (.tmp 0))⟩, [], []⟩,
         ⟨6, .pure, 0, ⟨(some 56), (some (53, true)), .plain (.mov (.tmp 13))⟩, [], []⟩,
         ⟨7, .pure, 0, ⟨(some 57), (some (53, true)), .plain (.iaddr none 2 (.tmp 55) (.tmp 56))⟩, [], []⟩,
         ⟨8, .read, 0, ⟨(some 58), (some (53, true)), .plain (.load (some 2) (.tmp 57))⟩, [], []⟩,
         ⟨9, .pure, 0, ⟨(some 59), (some (53, true)), .plain (.mov (.tmp 0))⟩, [], []⟩,
         ⟨10, .pure, 0, ⟨(some 60), (some (53, true)), .plain (.mov (.tmp 1))⟩, [], []⟩,
         ⟨11, .pure, 0, ⟨(some 61), (some (53, true)), .plain (.iaddr none 2 (.tmp 59) (.tmp 60))⟩, [], []⟩,
         ⟨12, .read, 0, ⟨(some 62), (some (53, true)), .plain (.load (some 2) (.tmp 61))⟩, [], []⟩,
         ⟨13, .chain, 0, ⟨(some 63), (some (53, true)), .callv (.tmp 54) [(.tmp 58), (.tmp 62)]⟩, [], []⟩,
         ⟨14, .pure, 0, ⟨(some 64), (some (53, true)), .plain (.bin .lss (.tmp 63) (.const (.int .i64 0)))⟩, [], []⟩,
         ⟨15, .pure, 0, ⟨(some 65), (some (53, true)), .plain (.un .not (.tmp 64))⟩, [], []⟩,
         ⟨16, .pure, 0, ⟨(some 66), none, .plain (.pick (.tmp 53) (.tmp 65) (.const (.bool false)))⟩, [], []⟩])
      (.cond (.tmp 66)
       .skip
       (.exit 2)))
     (.block 3 (.seq [⟨(some 67), none, .plain (.mov (.tmp 13))⟩,
        ⟨(some 68), none, .plain (.bin .sub (.tmp 67) (.const (.int .i64 1)))⟩,
        ⟨(some 13), none, .plain (.mov (.tmp 68))⟩])))))
  (.both (.both (.seq [⟨(some 69), none, .plain (.mov (.tmp 12))⟩,
      ⟨(some 70), none, .plain (.mov (.tmp 13))⟩,
      ⟨(some 71), none, .plain (.bin .gtr (.tmp 69) (.tmp 70))⟩])
   (.cond (.tmp 71)
    (.both (.draw 0 [⟨0, .pure, 0, ⟨(some 72), none, .plain (.mov (.tmp 0))⟩, [], []⟩,
       ⟨1, .pure, 0, ⟨(some 73), none, .plain (.mov (.tmp 13))⟩, [], []⟩,
       ⟨2, .pure, 0, ⟨(some 74), none, .plain (.mov (.tmp 0))⟩, [], []⟩,
       ⟨3, .pure, 0, ⟨(some 75), none, .plain (.mov (.tmp 1))⟩, [], []⟩,
       ⟨4, .pure, 0, ⟨(some 76), none, .plain (.mov (.tmp 0))⟩, [], []⟩,
       ⟨5, .pure, 0, ⟨(some 77), none, .plain (.mov (.tmp 1))⟩, [], []⟩,
       ⟨6, .pure, 0, ⟨(some 78), none, .plain (.iaddr none 2 (.tmp 76) (.tmp 77))⟩, [], []⟩,
       ⟨7, .read, 0, ⟨(some 79), none, .plain (.load (some 2) (.tmp 78))⟩, [], []⟩,
       ⟨8, .pure, 0, ⟨(some 80), none, .plain (.mov (.tmp 0))⟩, [], []⟩,
       ⟨9, .pure, 0, ⟨(some 81), none, .plain (.mov (.tmp 13))⟩, [], []⟩,
       ⟨10, .pure, 0, ⟨(some 82), none, .plain (.iaddr none 2 (.tmp 80) (.tmp 81))⟩, [], []⟩,
       ⟨11, .read, 0, ⟨(some 83), none, .plain (.load (some 2) (.tmp 82))⟩, [], []⟩,
       ⟨12, .pure, 0, ⟨(some 84), none, .plain (.iaddr none 2 (.tmp 72) (.tmp 73))⟩, [], []⟩,
       ⟨13, .chain, 0, ⟨none, none, .plain (.store 2 (.tmp 84) (.tmp 79))⟩, [], []⟩,
       ⟨14, .pure, 0, ⟨(some 85), none, .plain (.iaddr none 2 (.tmp 74) (.tmp 75))⟩, [], []⟩,
       ⟨15, .chain, 0, ⟨none, none, .plain (.store 2 (.tmp 85) (.tmp 83))⟩, [], []⟩])
    (.both (.seq [⟨(some 86), none, .plain (.mov (.tmp 13))⟩,
       ⟨(some 10), none, .plain (.mov (.tmp 86))⟩,
       ⟨(some 11), none, .plain (.mov (.const (.bool true)))⟩])
    .ret))
    .skip))
  (.both (.draw 0 [⟨0, .pure, 0, ⟨(some 87), none, .plain (.mov (.tmp 0))⟩, [], []⟩,
     ⟨1, .pure, 0, ⟨(some 88), none, .plain (.mov (.tmp 12))⟩, [], []⟩,
     ⟨2, .pure, 0, ⟨(some 89), none, .plain (.mov (.tmp 0))⟩, [], []⟩,
     ⟨3, .pure, 0, ⟨(some 90), none, .plain (.mov (.tmp 13))⟩, [], []⟩,
     ⟨4, .pure, 0, ⟨(some 91), none, .plain (.mov (.tmp 0))⟩, [], []⟩,
     ⟨5, .pure, 0, ⟨(some 92), none, .plain (.mov (.tmp 13))⟩, [], []⟩,
     ⟨6, .pure, 0, ⟨(some 93), none, .plain (.iaddr none 2 (.tmp 91) (.tmp 92))⟩, [], []⟩,
     ⟨7, .read, 0, ⟨(some 94), none, .plain (.load (some 2) (.tmp 93))⟩, [], []⟩,
     ⟨8, .pure, 0, ⟨(some 95), none, .plain (.mov (.tmp 0))⟩, [], []⟩,
     ⟨9, .pure, 0, ⟨(some 96), none, .plain (.mov (.tmp 12))⟩, [], []⟩,
     ⟨10, .pure, 0, ⟨(some 97), none, .plain (.iaddr none 2 (.tmp 95) (.tmp 96))⟩, [], []⟩,
     ⟨11, .read, 0, ⟨(some 98), none, .plain (.load (some 2) (.tmp 97))⟩, [], []⟩,
     ⟨12, .pure, 0, ⟨(some 99), none, .plain (.iaddr none 2 (.tmp 87) (.tmp 88))⟩, [], []⟩,
     ⟨13, .chain, 0, ⟨none, none, .plain (.store 2 (.tmp 99) (.tmp 94))⟩, [], []⟩,
     ⟨14, .pure, 0, ⟨(some 100), none, .plain (.iaddr none 2 (.tmp 89) (.tmp 90))⟩, [], []⟩,
     ⟨15, .chain, 0, ⟨none, none, .plain (.store 2 (.tmp 100) (.tmp 98))⟩, [], []⟩])
  (.both (.seq [⟨(some 101), none, .plain (.mov (.tmp 12))⟩,
     ⟨(some 102), none, .plain (.bin .add (.tmp 101) (.const (.int .i64 1)))⟩,
     ⟨(some 12), none, .plain (.mov (.tmp 102))⟩])
  (.both (.seq [⟨(some 103), none, .plain (.mov (.tmp 13))⟩,
     ⟨(some 104), none, .plain (.bin .sub (.tmp 103) (.const (.int .i64 1)))⟩,
     ⟨(some 13), none, .plain (.mov (.tmp 104))⟩])
  (.both (.block 4 (.loop (.block 5 (.both (.block 6 (.loop (.both (.both (.draw 0 [⟨0, .pure, 0, ⟨(some 105), none, .plain (.mov (.tmp 12))⟩, [], []⟩,
             ⟨1, .pure, 0, ⟨(some 106), none, .plain (.mov (.tmp 13))⟩, [], []⟩,
             ⟨2, .pure, 0, ⟨(some 107), none, .plain (.bin .leq (.tmp 105) (.tmp 106))⟩, [], []⟩,
             ⟨3, .pure, 0, ⟨(some 108), none, .plain (.mov (.tmp 107))⟩, [], []⟩,
             ⟨4, .pure, 0, ⟨(some 109), (some (108, true)), .plain (.mov (.tmp 4))⟩, [], []⟩,
             ⟨5, .pure, 0, ⟨(some 110), (some (108, true)), .plain (.mov (.tmp 0))⟩, [], []⟩,
             ⟨6, .pure, 0, ⟨(some 111), (some (108, true)), .plain (.mov (.tmp 12))⟩, [], []⟩,
             ⟨7, .pure, 0, ⟨(some 112), (some (108, true)), .plain (.iaddr none 2 (.tmp 110) (.tmp 111))⟩, [], []⟩,
             ⟨8, .read, 0, ⟨(some 113), (some (108, true)), .plain (.load (some 2) (.tmp 112))⟩, [], []⟩,
             ⟨9, .pure, 0, ⟨(some 114), (some (108, true)), .plain (.mov (.tmp 0))⟩, [], []⟩,
             ⟨10, .pure, 0, ⟨(some 115), (some (108, true)), .plain (.mov (.tmp 1))⟩, [], []⟩,
             ⟨11, .pure, 0, ⟨(some 116), (some (108, true)), .plain (.iaddr none 2 (.tmp 114) (.tmp 115))⟩, [], []⟩,
             ⟨12, .read, 0, ⟨(some 117), (some (108, true)), .plain (.load (some 2) (.tmp 116))⟩, [], []⟩,
             ⟨13, .chain, 0, ⟨(some 118), (some (108, true)), .callv (.tmp 109) [(.tmp 113), (.tmp 117)]⟩, [], []⟩,
             ⟨14, .pure, 0, ⟨(some 119), (some (108, true)), .plain (.bin .lss (.tmp 118) (.const (.int .i64 0)))⟩, [], []⟩,
             ⟨15, .pure, 0, ⟨(some 120), none, .plain (.pick (.tmp 108) (.tmp 119) (.const (.bool false)))⟩, [], []⟩])
          (.cond (.tmp 120)
           .skip
           (.exit 6)))
         (.block 7 (.seq [⟨(some 121), none, .plain (.mov (.tmp 12))⟩,
            ⟨(some 122), none, .plain (.bin .add (.tmp 121) (.const (.int .i64 1)))⟩,
            ⟨(some 12), none, .plain (.mov (.tmp 122))⟩])))))
      (.both (.block 8 (.loop (.both (.both (.draw 0 [⟨0, .pure, 0, ⟨(some 123), none, .plain (.mov (.tmp 12))⟩, [], []⟩,
             ⟨1, .pure, 0, ⟨(some 124), none, .plain (.mov (.tmp 13))⟩, [], []⟩,
             ⟨2, .pure, 0, ⟨(some 125), none, .plain (.bin .leq (.tmp 123) (.tmp 124))⟩, [], []⟩,
             ⟨3, .pure, 0, ⟨(some 126), none, .plain (.mov (.tmp 125))⟩, [], []⟩,
             ⟨4, .pure, 0, ⟨(some 127), (some (126, true)), .plain (.mov (.tmp 4))⟩, [], []⟩,
             ⟨5, .pure, 0, ⟨(some 128), (some (126, true)), .plain (.mov (.tmp 0))⟩, [], []⟩,
             ⟨6, .pure, 0, ⟨(some 129), (some (126, true)), .plain (.mov (.tmp 13))⟩, [], []⟩,
             ⟨7, .pure, 0, ⟨(some 130), (some (126, true)), .plain (.iaddr none 2 (.tmp 128) (.tmp 129))⟩, [], []⟩,
             ⟨8, .read, 0, ⟨(some 131), (some (126, true)), .plain (.load (some 2) (.tmp 130))⟩, [], []⟩,
             ⟨9, .pure, 0, ⟨(some 132), (some (126, true)), .plain (.mov (.tmp 0))⟩, [], []⟩,
             ⟨10, .pure, 0, ⟨(some 133), (some (126, true)), .plain (.mov (.tmp 1))⟩, [], []⟩,
             ⟨11, .pure, 0, ⟨(some 134), (some (126, true)), .plain (.iaddr none 2 (.tmp 132) (.tmp 133))⟩, [], []⟩,
             ⟨12, .read, 0, ⟨(some 135), (some (126, true)), .plain (.load (some 2) (.tmp 134))⟩, [], []⟩,
             ⟨13, .chain, 0, ⟨(some 136), (some (126, true)), .callv (.tmp 127) [(.tmp 131), (.tmp 135)]⟩, [], []⟩,
             ⟨14, .pure, 0, ⟨(some 137), (some (126, true)), .plain (.bin .lss (.tmp 136) (.const (.int .i64 0)))⟩, [], []⟩,
             ⟨15, .pure, 0, ⟨(some 138), (some (126, true)), .plain (.un .not (.tmp 137))⟩, [], []⟩,
             ⟨16, .pure, 0, ⟨(some 139), none, .plain (.pick (.tmp 126) (.tmp 138) (.const (.bool false)))⟩, [], []⟩])
          (.cond (.tmp 139)
           .skip
           (.exit 8)))
         (.block 9 (.seq [⟨(some 140), none, .plain (.mov (.tmp 13))⟩,
            ⟨(some 141), none, .plain (.bin .sub (.tmp 140) (.const (.int .i64 1)))⟩,
            ⟨(some 13), none, .plain (.mov (.tmp 141))⟩])))))
      (.both (.both (.seq [⟨(some 142), none, .plain (.mov (.tmp 12))⟩,
          ⟨(some 143), none, .plain (.mov (.tmp 13))⟩,
          ⟨(some 144), none, .plain (.bin .gtr (.tmp 142) (.tmp 143))⟩])
       (.cond (.tmp 144)
        (.exit 4)
        .skip))
      (.both (.draw 0 [⟨0, .pure, 0, ⟨(some 145), none, .plain (.mov (.tmp 0))⟩, [], []⟩,
         ⟨1, .pure, 0, ⟨(some 146), none, .plain (.mov (.tmp 12))⟩, [], []⟩,
         ⟨2, .pure, 0, ⟨(some 147), none, .plain (.mov (.tmp 0))⟩, [], []⟩,
         ⟨3, .pure, 0, ⟨(some 148), none, .plain (.mov (.tmp 13))⟩, [], []⟩,
         ⟨4, .pure, 0, ⟨(some 149), none, .plain (.mov (.tmp 0))⟩, [], []⟩,
         ⟨5, .pure, 0, ⟨(some 150), none, .plain (.mov (.tmp 13))⟩, [], []⟩,
         ⟨6, .pure, 0, ⟨(some 151), none, .plain (.iaddr none 2 (.tmp 149) (.tmp 150))⟩, [], []⟩,
         ⟨7, .read, 0, ⟨(some 152), none, .plain (.load (some 2) (.tmp 151))⟩, [], []⟩,
         ⟨8, .pure, 0, ⟨(some 153), none, .plain (.mov (.tmp 0))⟩, [], []⟩,
         ⟨9, .pure, 0, ⟨(some 154), none, .plain (.mov (.tmp 12))⟩, [], []⟩,
         ⟨10, .pure, 0, ⟨(some 155), none, .plain (.iaddr none 2 (.tmp 153) (.tmp 154))⟩, [], []⟩,
         ⟨11, .read, 0, ⟨(some 156), none, .plain (.load (some 2) (.tmp 155))⟩, [], []⟩,
         ⟨12, .pure, 0, ⟨(some 157), none, .plain (.iaddr none 2 (.tmp 145) (.tmp 146))⟩, [], []⟩,
         ⟨13, .chain, 0, ⟨none, none, .plain (.store 2 (.tmp 157) (.tmp 152))⟩, [], []⟩,
         ⟨14, .pure, 0, ⟨(some 158), none, .plain (.iaddr none 2 (.tmp 147) (.tmp 148))⟩, [], []⟩,
         ⟨15, .chain, 0, ⟨none, none, .plain (.store 2 (.tmp 158) (.tmp 156))⟩, [], []⟩])
      (.both (.seq [⟨(some 159), none, .plain (.mov (.tmp 12))⟩,
         ⟨(some 160), none, .plain (.bin .add (.tmp 159) (.const (.int .i64 1)))⟩,
         ⟨(some 12), none, .plain (.mov (.tmp 160))⟩])
      (.seq [⟨(some 161), none, .plain (.mov (.tmp 13))⟩,
        ⟨(some 162), none, .plain (.bin .sub (.tmp 161) (.const (.int .i64 1)))⟩,
        ⟨(some 13), none, .plain (.mov (.tmp 162))⟩])))))))))
  (.both (.draw 0 [⟨0, .pure, 0, ⟨(some 163), none, .plain (.mov (.tmp 0))⟩, [], []⟩,
     ⟨1, .pure, 0, ⟨(some 164), none, .plain (.mov (.tmp 13))⟩, [], []⟩,
     ⟨2, .pure, 0, ⟨(some 165), none, .plain (.mov (.tmp 0))⟩, [], []⟩,
     ⟨3, .pure, 0, ⟨(some 166), none, .plain (.mov (.tmp 1))⟩, [], []⟩,
     ⟨4, .pure, 0, ⟨(some 167), none, .plain (.mov (.tmp 0))⟩, [], []⟩,
     ⟨5, .pure, 0, ⟨(some 168), none, .plain (.mov (.tmp 1))⟩, [], []⟩,
     ⟨6, .pure, 0, ⟨(some 169), none, .plain (.iaddr none 2 (.tmp 167) (.tmp 168))⟩, [], []⟩,
     ⟨7, .read, 0, ⟨(some 170), none, .plain (.load (some 2) (.tmp 169))⟩, [], []⟩,
     ⟨8, .pure, 0, ⟨(some 171), none, .plain (.mov (.tmp 0))⟩, [], []⟩,
     ⟨9, .pure, 0, ⟨(some 172), none, .plain (.mov (.tmp 13))⟩, [], []⟩,
     ⟨10, .pure, 0, ⟨(some 173), none, .plain (.iaddr none 2 (.tmp 171) (.tmp 172))⟩, [], []⟩,
     ⟨11, .read, 0, ⟨(some 174), none, .plain (.load (some 2) (.tmp 173))⟩, [], []⟩,
     ⟨12, .pure, 0, ⟨(some 175), none, .plain (.iaddr none 2 (.tmp 163) (.tmp 164))⟩, [], []⟩,
     ⟨13, .chain, 0, ⟨none, none, .plain (.store 2 (.tmp 175) (.tmp 170))⟩, [], []⟩,
     ⟨14, .pure, 0, ⟨(some 176), none, .plain (.iaddr none 2 (.tmp 165) (.tmp 166))⟩, [], []⟩,
     ⟨15, .chain, 0, ⟨none, none, .plain (.store 2 (.tmp 176) (.tmp 174))⟩, [], []⟩])
  (.both (.seq [⟨(some 177), none, .plain (.mov (.tmp 13))⟩,
     ⟨(some 10), none, .plain (.mov (.tmp 177))⟩,
     ⟨(some 11), none, .plain (.mov (.const (.bool false)))⟩])
  .ret))))))))))))⟩
/-- math/bits.Len32 -/
def a127 : AFunc := ⟨1, [.tmp 2],
  (.both (.seq [⟨(some 2), none, .plain (.mov (.const (.int .i64 0)))⟩])
  (.both (.both (.seq [⟨(some 3), none, .plain (.mov (.tmp 0))⟩,
      ⟨(some 4), none, .plain (.bin .geq (.tmp 3) (.const (.int .u32 65536)))⟩])
   (.cond (.tmp 4)
    (.both (.seq [⟨(some 5), none, .plain (.mov (.tmp 0))⟩,
       ⟨(some 6), none, .plain (.bin .shr (.tmp 5) (.const (.int .u64 16)))⟩,
       ⟨(some 0), none, .plain (.mov (.tmp 6))⟩])
    (.seq [⟨(some 2), none, .plain (.mov (.const (.int .i64 16)))⟩]))
    .skip))
  (.both (.both (.seq [⟨(some 7), none, .plain (.mov (.tmp 0))⟩,
      ⟨(some 8), none, .plain (.bin .geq (.tmp 7) (.const (.int .u32 256)))⟩])
   (.cond (.tmp 8)
    (.both (.seq [⟨(some 9), none, .plain (.mov (.tmp 0))⟩,
       ⟨(some 10), none, .plain (.bin .shr (.tmp 9) (.const (.int .u64 8)))⟩,
       ⟨(some 0), none, .plain (.mov (.tmp 10))⟩])
    (.seq [⟨(some 11), none, .plain (.mov (.tmp 2))⟩,
      ⟨(some 12), none, .plain (.bin .add (.tmp 11) (.const (.int .i64 8)))⟩,
      ⟨(some 2), none, .plain (.mov (.tmp 12))⟩]))
    .skip))
  (.both (.seq [⟨(some 13), none, .plain (.mov (.tmp 2))⟩,
     ⟨(some 14), none, .plain (.mov (.tmp 0))⟩,
     ⟨(some 15), none, .plain (.conv (.int .u8) (.tmp 14))⟩,
     ⟨(some 16), none, .plain (.index .str (.const (.string ⟨#[0, 1, 2, 2, 3, 3, 3, 3, 4, 4, 4, 4, 4, 4, 4, 4, 5, 5, 5, 5, 5, 5, 5, 5, 5, 5, 5, 5, 5, 5, 5, 5, 6, 6, 6, 6, 6, 6, 6, 6, 6, 6, 6, 6, 6, 6, 6, 6, 6, 6, 6, 6, 6, 6, 6, 6, 6, 6, 6, 6, 6, 6, 6, 6, 7, 7, 7, 7, 7, 7, 7, 7, 7, 7, 7, 7, 7, 7, 7, 7, 7, 7, 7, 7, 7, 7, 7, 7, 7, 7, 7, 7, 7, 7, 7, 7, 7, 7, 7, 7, 7, 7, 7, 7, 7, 7, 7, 7, 7, 7, 7, 7, 7, 7, 7, 7, 7, 7, 7, 7, 7, 7, 7, 7, 7, 7, 7, 7, 8, 8, 8, 8, 8, 8, 8, 8, 8, 8, 8, 8, 8, 8, 8, 8, 8, 8, 8, 8, 8, 8, 8, 8, 8, 8, 8, 8, 8, 8, 8, 8, 8, 8, 8, 8, 8, 8, 8, 8, 8, 8, 8, 8, 8, 8, 8, 8, 8, 8, 8, 8, 8, 8, 8, 8, 8, 8, 8, 8, 8, 8, 8, 8, 8, 8, 8, 8, 8, 8, 8, 8, 8, 8, 8, 8, 8, 8, 8, 8, 8, 8, 8, 8, 8, 8, 8, 8, 8, 8, 8, 8, 8, 8, 8, 8, 8, 8, 8, 8, 8, 8, 8, 8, 8, 8, 8, 8, 8, 8, 8, 8, 8, 8, 8, 8, 8, 8, 8, 8, 8, 8, 8, 8, 8, 8, 8, 8]⟩)) (.tmp 15))⟩,
     ⟨(some 17), none, .plain (.conv (.int .i64) (.tmp 16))⟩,
     ⟨(some 18), none, .plain (.bin .add (.tmp 13) (.tmp 17))⟩,
     ⟨(some 2), none, .plain (.mov (.tmp 18))⟩])
  .ret))))⟩
/-- math/bits.Len64 -/
def a128 : AFunc := ⟨1, [.tmp 2],
  (.both (.seq [⟨(some 2), none, .plain (.mov (.const (.int .i64 0)))⟩])
  (.both (.both (.seq [⟨(some 3), none, .plain (.mov (.tmp 0))⟩,
      ⟨(some 4), none, .plain (.bin .geq (.tmp 3) (.const (.int .u64 4294967296)))⟩])
   (.cond (.tmp 4)
    (.both (.seq [⟨(some 5), none, .plain (.mov (.tmp 0))⟩,
       ⟨(some 6), none, .plain (.bin .shr (.tmp 5) (.const (.int .u64 32)))⟩,
       ⟨(some 0), none, .plain (.mov (.tmp 6))⟩])
    (.seq [⟨(some 2), none, .plain (.mov (.const (.int .i64 32)))⟩]))
    .skip))
  (.both (.both (.seq [⟨(some 7), none, .plain (.mov (.tmp 0))⟩,
      ⟨(some 8), none, .plain (.bin .geq (.tmp 7) (.const (.int .u64 65536)))⟩])
   (.cond (.tmp 8)
    (.both (.seq [⟨(some 9), none, .plain (.mov (.tmp 0))⟩,
       ⟨(some 10), none, .plain (.bin .shr (.tmp 9) (.const (.int .u64 16)))⟩,
       ⟨(some 0), none, .plain (.mov (.tmp 10))⟩])
    (.seq [⟨(some 11), none, .plain (.mov (.tmp 2))⟩,
      ⟨(some 12), none, .plain (.bin .add (.tmp 11) (.const (.int .i64 16)))⟩,
      ⟨(some 2), none, .plain (.mov (.tmp 12))⟩]))
    .skip))
  (.both (.both (.seq [⟨(some 13), none, .plain (.mov (.tmp 0))⟩,
      ⟨(some 14), none, .plain (.bin .geq (.tmp 13) (.const (.int .u64 256)))⟩])
   (.cond (.tmp 14)
    (.both (.seq [⟨(some 15), none, .plain (.mov (.tmp 0))⟩,
       ⟨(some 16), none, .plain (.bin .shr (.tmp 15) (.const (.int .u64 8)))⟩,
       ⟨(some 0), none, .plain (.mov (.tmp 16))⟩])
    (.seq [⟨(some 17), none, .plain (.mov (.tmp 2))⟩,
      ⟨(some 18), none, .plain (.bin .add (.tmp 17) (.const (.int .i64 8)))⟩,
      ⟨(some 2), none, .plain (.mov (.tmp 18))⟩]))
    .skip))
  (.both (.seq [⟨(some 19), none, .plain (.mov (.tmp 2))⟩,
     ⟨(some 20), none, .plain (.mov (.tmp 0))⟩,
     ⟨(some 21), none, .plain (.conv (.int .u8) (.tmp 20))⟩,
     ⟨(some 22), none, .plain (.index .str (.const (.string ⟨#[0, 1, 2, 2, 3, 3, 3, 3, 4, 4, 4, 4, 4, 4, 4, 4, 5, 5, 5, 5, 5, 5, 5, 5, 5, 5, 5, 5, 5, 5, 5, 5, 6, 6, 6, 6, 6, 6, 6, 6, 6, 6, 6, 6, 6, 6, 6, 6, 6, 6, 6, 6, 6, 6, 6, 6, 6, 6, 6, 6, 6, 6, 6, 6, 7, 7, 7, 7, 7, 7, 7, 7, 7, 7, 7, 7, 7, 7, 7, 7, 7, 7, 7, 7, 7, 7, 7, 7, 7, 7, 7, 7, 7, 7, 7, 7, 7, 7, 7, 7, 7, 7, 7, 7, 7, 7, 7, 7, 7, 7, 7, 7, 7, 7, 7, 7, 7, 7, 7, 7, 7, 7, 7, 7, 7, 7, 7, 7, 8, 8, 8, 8, 8, 8, 8, 8, 8, 8, 8, 8, 8, 8, 8, 8, 8, 8, 8, 8, 8, 8, 8, 8, 8, 8, 8, 8, 8, 8, 8, 8, 8, 8, 8, 8, 8, 8, 8, 8, 8, 8, 8, 8, 8, 8, 8, 8, 8, 8, 8, 8, 8, 8, 8, 8, 8, 8, 8, 8, 8, 8, 8, 8, 8, 8, 8, 8, 8, 8, 8, 8, 8, 8, 8, 8, 8, 8, 8, 8, 8, 8, 8, 8, 8, 8, 8, 8, 8, 8, 8, 8, 8, 8, 8, 8, 8, 8, 8, 8, 8, 8, 8, 8, 8, 8, 8, 8, 8, 8, 8, 8, 8, 8, 8, 8, 8, 8, 8, 8, 8, 8, 8, 8, 8, 8, 8, 8]⟩)) (.tmp 21))⟩,
     ⟨(some 23), none, .plain (.conv (.int .i64) (.tmp 22))⟩,
     ⟨(some 24), none, .plain (.bin .add (.tmp 19) (.tmp 23))⟩,
     ⟨(some 2), none, .plain (.mov (.tmp 24))⟩])
  .ret)))))⟩
/-- slices.siftDownCmpFunc[fettle/api.Ext] -/
def a129 : AFunc := ⟨5, [],
  (.both (.seq [⟨(some 12), none, .plain (.mov (.tmp 1))⟩,
     ⟨(some 10), none, .plain (.mov (.tmp 12))⟩])
  (.block 0 (.loop (.block 1 (.both (.seq [⟨(some 13), none, .plain (.mov (.tmp 10))⟩,
        ⟨(some 14), none, .plain (.bin .mul (.const (.int .i64 2)) (.tmp 13))⟩,
        ⟨(some 15), none, .plain (.bin .add (.tmp 14) (.const (.int .i64 1)))⟩,
        ⟨(some 11), none, .plain (.mov (.tmp 15))⟩])
     (.both (.both (.seq [⟨(some 16), none, .plain (.mov (.tmp 11))⟩,
         ⟨(some 17), none, .plain (.mov (.tmp 2))⟩,
         ⟨(some 18), none, .plain (.bin .geq (.tmp 16) (.tmp 17))⟩])
      (.cond (.tmp 18)
       (.exit 0)
       .skip))
     (.both (.both (.draw 0 [⟨0, .pure, 0, ⟨(some 19), none, .plain (.mov (.tmp 11))⟩, [], []⟩,
         ⟨1, .pure, 0, ⟨(some 20), none, .plain (.bin .add (.tmp 19) (.const (.int .i64 1)))⟩, [], []⟩,
         ⟨2, .pure, 0, ⟨(some 21), none, .plain (.mov (.tmp 2))⟩, [], []⟩,
         ⟨3, .pure, 0, ⟨(some 22), none, .plain (.bin .lss (.tmp 20) (.tmp 21))⟩, [], []⟩,
         ⟨4, .pure, 0, ⟨(some 23), none, .plain (.mov (.tmp 22))⟩, [], []⟩,
         ⟨5, .pure, 0, ⟨(some 24), (some (23, true)), .plain (.mov (.tmp 4))⟩, [], []⟩,
         ⟨6, .pure, 0, ⟨(some 25), (some (23, true)), .plain (.mov (.tmp 0))⟩, [], []⟩,
         ⟨7, .pure, 0, ⟨(some 26), (some (23, true)), .plain (.mov (.tmp 3))⟩, [], []⟩,
         ⟨8, .pure, 0, ⟨(some 27), (some (23, true)), .plain (.mov (.tmp 11))⟩, [], []⟩,
         ⟨9, .pure, 0, ⟨(some 28), (some (23, true)), .plain (.bin .add (.tmp 26) (.tmp 27))⟩, [], []⟩,
         ⟨10, .pure, 0, ⟨(some 29), (some (23, true)), .plain (.iaddr none 2 (.tmp 25) (.tmp 28))⟩, [], []⟩,
         ⟨11, .read, 0, ⟨(some 30), (some (23, true)), .plain (.load (some 2) (.tmp 29))⟩, [], []⟩,
         ⟨12, .pure, 0, ⟨(some 31), (some (23, true)), .plain (.mov (.tmp 0))⟩, [], []⟩,
         ⟨13, .pure, 0, ⟨(some 32), (some (23, true)), .plain (.mov (.tmp 3))⟩, [], []⟩,
         ⟨14, .pure, 0, ⟨(some 33), (some (23, true)), .plain (.mov (.tmp 11))⟩, [], []⟩,
         ⟨15, .pure, 0, ⟨(some 34), (some (23, true)), .plain (.bin .add (.tmp 32) (.tmp 33))⟩, [], []⟩,
         ⟨16, .pure, 0, ⟨(some 35), (some (23, true)), .plain (.bin .add (.tmp 34) (.const (.int .i64 1)))⟩, [], []⟩,
         ⟨17, .pure, 0, ⟨(some 36), (some (23, true)), .plain (.iaddr none 2 (.tmp 31) (.tmp 35))⟩, [], []⟩,
         ⟨18, .read, 0, ⟨(some 37), (some (23, true)), .plain (.load (some 2) (.tmp 36))⟩, [], []⟩,
         ⟨19, .chain, 0, ⟨(some 38), (some (23, true)), .callv (.tmp 24) [(.tmp 30), (.tmp 37)]⟩, [], []⟩,
         ⟨20, .pure, 0, ⟨(some 39), (some (23, true)), .plain (.bin .lss (.tmp 38) (.const (.int .i64 0)))⟩, [], []⟩,
         ⟨21, .pure, 0, ⟨(some 40), none, .plain (.pick (.tmp 23) (.tmp 39) (.const (.bool false)))⟩, [], []⟩])
      (.cond (.tmp 40)
       (.seq [⟨(some 41), none, .plain (.mov (.tmp 11))⟩,
         ⟨(some 42), none, .plain (.bin .add (.tmp 41) (.const (.int .i64 1)))⟩,
         ⟨(some 11), none, .plain (.mov (.tmp 42))⟩])
       .skip))
     (.both (.both (.draw 0 [⟨0, .pure, 0, ⟨(some 43), none, .plain (.mov (.tmp 4))⟩, [], []⟩,
         ⟨1, .pure, 0, ⟨(some 44), none, .plain (.mov (.tmp 0))⟩, [], []⟩,
         ⟨2, .pure, 0, ⟨(some 45), none, .plain (.mov (.tmp 3))⟩, [], []⟩,
         ⟨3, .pure, 0, ⟨(some 46), none, .plain (.mov (.tmp 10))⟩, [], []⟩,
         ⟨4, .pure, 0, ⟨(some 47), none, .plain (.bin .add (.tmp 45) (.tmp 46))⟩, [], []⟩,
         ⟨5, .pure, 0, ⟨(some 48), none, .plain (.iaddr none 2 (.tmp 44) (.tmp 47))⟩, [], []⟩,
         ⟨6, .read, 0, ⟨(some 49), none, .plain (.load (some 2) (.tmp 48))⟩, [], []⟩,
         ⟨7, .pure, 0, ⟨(some 50), none, .plain (.mov (.tmp 0))⟩, [], []⟩,
         ⟨8, .pure, 0, ⟨(some 51), none, .plain (.mov (.tmp 3))⟩, [], []⟩,
         ⟨9, .pure, 0, ⟨(some 52), none, .plain (.mov (.tmp 11))⟩, [], []⟩,
         ⟨10, .pure, 0, ⟨(some 53), none, .plain (.bin .add (.tmp 51) (.tmp 52))⟩, [], []⟩,
         ⟨11, .pure, 0, ⟨(some 54), none, .plain (.iaddr none 2 (.tmp 50) (.tmp 53))⟩, [], []⟩,
         ⟨12, .read, 0, ⟨(some 55), none, .plain (.load (some 2) (.tmp 54))⟩, [], []⟩,
         ⟨13, .chain, 0, ⟨(some 56), none, .callv (.tmp 43) [(.tmp 49), (.tmp 55)]⟩, [], []⟩,
         ⟨14, .pure, 0, ⟨(some 57), none, .plain (.bin .lss (.tmp 56) (.const (.int .i64 0)))⟩, [], []⟩,
         ⟨15, .pure, 0, ⟨(some 58), none, .plain (.un .not (.tmp 57))⟩, [], []⟩])
      (.cond (.tmp 58)
       .ret
       .skip))
     (.both (.draw 0 [⟨0, .pure, 0, ⟨(some 59), none, .plain (.mov (.tmp 0))⟩, [], []⟩,
        ⟨1, .pure, 0, ⟨(some 60), none, .plain (.mov (.tmp 3))⟩, [], []⟩,
        ⟨2, .pure, 0, ⟨(some 61), none, .plain (.mov (.tmp 10))⟩, [], []⟩,
        ⟨3, .pure, 0, ⟨(some 62), none, .plain (.bin .add (.tmp 60) (.tmp 61))⟩, [], []⟩,
        ⟨4, .pure, 0, ⟨(some 63), none, .plain (.mov (.tmp 0))⟩, [], []⟩,
        ⟨5, .pure, 0, ⟨(some 64), none, .plain (.mov (.tmp 3))⟩, [], []⟩,
        ⟨6, .pure, 0, ⟨(some 65), none, .plain (.mov (.tmp 11))⟩, [], []⟩,
        ⟨7, .pure, 0, ⟨(some 66), none, .plain (.bin .add (.tmp 64) (.tmp 65))⟩, [], []⟩,
        ⟨8, .pure, 0, ⟨(some 67), none, .plain (.mov (.tmp 0))⟩, [], []⟩,
        ⟨9, .pure, 0, ⟨(some 68), none, .plain (.mov (.tmp 3))⟩, [], []⟩,
        ⟨10, .pure, 0, ⟨(some 69), none, .plain (.mov (.tmp 11))⟩, [], []⟩,
        ⟨11, .pure, 0, ⟨(some 70), none, .plain (.bin .add (.tmp 68) (.tmp 69))⟩, [], []⟩,
        ⟨12, .pure, 0, ⟨(some 71), none, .plain (.iaddr none 2 (.tmp 67) (.tmp 70))⟩, [], []⟩,
        ⟨13, .read, 0, ⟨(some 72), none, .plain (.load (some 2) (.tmp 71))⟩, [], []⟩,
        ⟨14, .pure, 0, ⟨(some 73), none, .plain (.mov (.tmp 0))⟩, [], []⟩,
        ⟨15, .pure, 0, ⟨(some 74), none, .plain (.mov (.tmp 3))⟩, [], []⟩,
        ⟨16, .pure, 0, ⟨(some 75), none, .plain (.mov (.tmp 10))⟩, [], []⟩,
        ⟨17, .pure, 0, ⟨(some 76), none, .plain (.bin .add (.tmp 74) (.tmp 75))⟩, [], []⟩,
        ⟨18, .pure, 0, ⟨(some 77), none, .plain (.iaddr none 2 (.tmp 73) (.tmp 76))⟩, [], []⟩,
        ⟨19, .read, 0, ⟨(some 78), none, .plain (.load (some 2) (.tmp 77))⟩, [], []⟩,
        ⟨20, .pure, 0, ⟨(some 79), none, .plain (.iaddr none 2 (.tmp 59) (.tmp 62))⟩, [], []⟩,
        ⟨21, .chain, 0, ⟨none, none, .plain (.store 2 (.tmp 79) (.tmp 72))⟩, [], []⟩,
        ⟨22, .pure, 0, ⟨(some 80), none, .plain (.iaddr none 2 (.tmp 63) (.tmp 66))⟩, [], []⟩,
        ⟨23, .chain, 0, ⟨none, none, .plain (.store 2 (.tmp 80) (.tmp 78))⟩, [], []⟩])
     (.seq [⟨(some 81), none, .plain (.mov (.tmp 11))⟩,
       ⟨(some 10), none, .plain (.mov (.tmp 81))⟩]))))))))))⟩
/-- slices.nextPowerOfTwo -/
def a130 : AFunc := ⟨1, [.tmp 2],
  (.both (.seq [⟨(some 2), none, .plain (.mov (.const (.int .u64 0)))⟩])
  (.both (.seq [⟨(some 3), none, .plain (.mov (.tmp 0))⟩,
     ⟨(some 4), none, .plain (.conv (.int .u64) (.tmp 3))⟩,
     ⟨(some 5), none, .call 114 [(.tmp 4)]⟩,
     ⟨(some 6), none, .plain (.bin .shl (.const (.int .u64 1)) (.tmp 5))⟩,
     ⟨(some 2), none, .plain (.mov (.tmp 6))⟩])
  .ret))⟩
/-- (*slices.xorshift).Next -/
def a131 : AFunc := ⟨1, [.tmp 2],
  (.both (.seq [⟨(some 2), none, .plain (.mov (.const (.int .u64 0)))⟩])
  (.both (.draw 0 [⟨0, .pure, 0, ⟨(some 3), none, .plain (.mov (.tmp 0))⟩, [], []⟩,
     ⟨1, .pure, 0, ⟨(some 4), none, .plain (.nilCheck (.tmp 3))⟩, [], []⟩,
     ⟨2, .read, 0, ⟨(some 5), none, .plain (.load none (.tmp 4))⟩, [], []⟩,
     ⟨3, .pure, 0, ⟨(some 6), none, .plain (.mov (.tmp 0))⟩, [], []⟩,
     ⟨4, .pure, 0, ⟨(some 7), none, .plain (.nilCheck (.tmp 6))⟩, [], []⟩,
     ⟨5, .read, 0, ⟨(some 8), none, .plain (.load none (.tmp 7))⟩, [], []⟩,
     ⟨6, .pure, 0, ⟨(some 9), none, .plain (.bin .shl (.tmp 8) (.const (.int .u64 13)))⟩, [], []⟩,
     ⟨7, .pure, 0, ⟨(some 10), none, .plain (.bin .xor (.tmp 5) (.tmp 9))⟩, [], []⟩,
     ⟨8, .pure, 0, ⟨(some 11), none, .plain (.nilCheck (.tmp 3))⟩, [], []⟩,
     ⟨9, .chain, 0, ⟨none, none, .plain (.store 1 (.tmp 11) (.tmp 10))⟩, [], []⟩])
  (.both (.draw 0 [⟨0, .pure, 0, ⟨(some 12), none, .plain (.mov (.tmp 0))⟩, [], []⟩,
     ⟨1, .pure, 0, ⟨(some 13), none, .plain (.nilCheck (.tmp 12))⟩, [], []⟩,
     ⟨2, .read, 0, ⟨(some 14), none, .plain (.load none (.tmp 13))⟩, [], []⟩,
     ⟨3, .pure, 0, ⟨(some 15), none, .plain (.mov (.tmp 0))⟩, [], []⟩,
     ⟨4, .pure, 0, ⟨(some 16), none, .plain (.nilCheck (.tmp 15))⟩, [], []⟩,
     ⟨5, .read, 0, ⟨(some 17), none, .plain (.load none (.tmp 16))⟩, [], []⟩,
     ⟨6, .pure, 0, ⟨(some 18), none, .plain (.bin .shr (.tmp 17) (.const (.int .u64 7)))⟩, [], []⟩,
     ⟨7, .pure, 0, ⟨(some 19), none, .plain (.bin .xor (.tmp 14) (.tmp 18))⟩, [], []⟩,
     ⟨8, .pure, 0, ⟨(some 20), none, .plain (.nilCheck (.tmp 12))⟩, [], []⟩,
     ⟨9, .chain, 0, ⟨none, none, .plain (.store 1 (.tmp 20) (.tmp 19))⟩, [], []⟩])
  (.both (.draw 0 [⟨0, .pure, 0, ⟨(some 21), none, .plain (.mov (.tmp 0))⟩, [], []⟩,
     ⟨1, .pure, 0, ⟨(some 22), none, .plain (.nilCheck (.tmp 21))⟩, [], []⟩,
     ⟨2, .read, 0, ⟨(some 23), none, .plain (.load none (.tmp 22))⟩, [], []⟩,
     ⟨3, .pure, 0, ⟨(some 24), none, .plain (.mov (.tmp 0))⟩, [], []⟩,
     ⟨4, .pure, 0, ⟨(some 25), none, .plain (.nilCheck (.tmp 24))⟩, [], []⟩,
     ⟨5, .read, 0, ⟨(some 26), none, .plain (.load none (.tmp 25))⟩, [], []⟩,
     ⟨6, .pure, 0, ⟨(some 27), none, .plain (.bin .shl (.tmp 26) (.const (.int .u64 17)))⟩, [], []⟩,
     ⟨7, .pure, 0, ⟨(some 28), none, .plain (.bin .xor (.tmp 23) (.tmp 27))⟩, [], []⟩,
     ⟨8, .pure, 0, ⟨(some 29), none, .plain (.nilCheck (.tmp 21))⟩, [], []⟩,
     ⟨9, .chain, 0, ⟨none, none, .plain (.store 1 (.tmp 29) (.tmp 28))⟩, [], []⟩])
  (.both (.seq [⟨(some 30), none, .plain (.mov (.tmp 0))⟩,
     ⟨(some 31), none, .plain (.nilCheck (.tmp 30))⟩,
     ⟨(some 32), none, .plain (.load none (.tmp 31))⟩,
     ⟨(some 2), none, .plain (.mov (.tmp 32))⟩])
  .ret)))))⟩
/-- slices.medianAdjacentCmpFunc[fettle/api.Ext] -/
def a132 : AFunc := ⟨4, [.tmp 8],
  (.both (.seq [⟨(some 8), none, .plain (.mov (.const (.int .i64 0)))⟩])
  (.both (.seq [⟨(some 9), none, .plain (.mov (.tmp 0))⟩,
     ⟨(some 10), none, .plain (.mov (.tmp 1))⟩,
     ⟨(some 11), none, .plain (.bin .sub (.tmp 10) (.const (.int .i64 1)))⟩,
     ⟨(some 12), none, .plain (.mov (.tmp 1))⟩,
     ⟨(some 13), none, .plain (.mov (.tmp 1))⟩,
     ⟨(some 14), none, .plain (.bin .add (.tmp 13) (.const (.int .i64 1)))⟩,
     ⟨(some 15), none, .plain (.mov (.tmp 2))⟩,
     ⟨(some 16), none, .plain (.mov (.tmp 3))⟩,
     ⟨(some 17), none, .call 133 [(.tmp 9), (.tmp 11), (.tmp 12), (.tmp 14), (.tmp 15), (.tmp 16)]⟩,
     ⟨(some 8), none, .plain (.mov (.tmp 17))⟩])
  .ret))⟩
/-- slices.medianCmpFunc[fettle/api.Ext] -/
def a133 : AFunc := ⟨6, [.tmp 12],
  (.both (.seq [⟨(some 12), none, .plain (.mov (.const (.int .i64 0)))⟩])
  (.both (.seq [⟨(some 14), none, .plain (.mov (.tmp 0))⟩,
     ⟨(some 15), none, .plain (.mov (.tmp 1))⟩,
     ⟨(some 16), none, .plain (.mov (.tmp 2))⟩,
     ⟨(some 17), none, .plain (.mov (.tmp 4))⟩,
     ⟨(some 18), none, .plain (.mov (.tmp 5))⟩,
     ⟨(some 19), none, .call 134 [(.tmp 14), (.tmp 15), (.tmp 16), (.tmp 17), (.tmp 18)]⟩,
     ⟨(some 13), none, .plain (.mov (.tmp 19))⟩,
     ⟨(some 20), none, .plain (.extract (.tmp 13) 0)⟩,
     ⟨(some 21), none, .plain (.extract (.tmp 13) 1)⟩,
     ⟨(some 1), none, .plain (.mov (.tmp 20))⟩,
     ⟨(some 2), none, .plain (.mov (.tmp 21))⟩])
  (.both (.seq [⟨(some 23), none, .plain (.mov (.tmp 0))⟩,
     ⟨(some 24), none, .plain (.mov (.tmp 2))⟩,
     ⟨(some 25), none, .plain (.mov (.tmp 3))⟩,
     ⟨(some 26), none, .plain (.mov (.tmp 4))⟩,
     ⟨(some 27), none, .plain (.mov (.tmp 5))⟩,
     ⟨(some 28), none, .call 134 [(.tmp 23), (.tmp 24), (.tmp 25), (.tmp 26), (.tmp 27)]⟩,
     ⟨(some 22), none, .plain (.mov (.tmp 28))⟩,
     ⟨(some 29), none, .plain (.extract (.tmp 22) 0)⟩,
     ⟨(some 30), none, .plain (.extract (.tmp 22) 1)⟩,
     ⟨(some 2), none, .plain (.mov (.tmp 29))⟩,
     ⟨(some 3), none, .plain (.mov (.tmp 30))⟩])
  (.both (.seq [⟨(some 32), none, .plain (.mov (.tmp 0))⟩,
     ⟨(some 33), none, .plain (.mov (.tmp 1))⟩,
     ⟨(some 34), none, .plain (.mov (.tmp 2))⟩,
     ⟨(some 35), none, .plain (.mov (.tmp 4))⟩,
     ⟨(some 36), none, .plain (.mov (.tmp 5))⟩,
     ⟨(some 37), none, .call 134 [(.tmp 32), (.tmp 33), (.tmp 34), (.tmp 35), (.tmp 36)]⟩,
     ⟨(some 31), none, .plain (.mov (.tmp 37))⟩,
     ⟨(some 38), none, .plain (.extract (.tmp 31) 0)⟩,
     ⟨(some 39), none, .plain (.extract (.tmp 31) 1)⟩,
     ⟨(some 1), none, .plain (.mov (.tmp 38))⟩,
     ⟨(some 2), none, .plain (.mov (.tmp 39))⟩])
  (.both (.seq [⟨(some 40), none, .plain (.mov (.tmp 2))⟩,
     ⟨(some 12), none, .plain (.mov (.tmp 40))⟩])
  .ret)))))⟩
/-- slices.order2CmpFunc[fettle/api.Ext] -/
def a134 : AFunc := ⟨5, [.tmp 10, .tmp 11],
  (.both (.seq [⟨(some 10), none, .plain (.mov (.const (.int .i64 0)))⟩,
     ⟨(some 11), none, .plain (.mov (.const (.int .i64 0)))⟩])
  (.both (.both (.draw 0 [⟨0, .pure, 0, ⟨(some 12), none, .plain (.mov (.tmp 4))⟩, [], []⟩,
      ⟨1, .pure, 0, ⟨(some 13), none, .plain (.mov (.tmp 0))⟩, [], []⟩,
      ⟨2, .pure, 0, ⟨(some 14), none, .plain (.mov (.tmp 2))⟩, [], []⟩,
      ⟨3, .pure, 0, ⟨(some 15), none, .plain (.iaddr none 2 (.tmp 13) (.tmp 14))⟩, [], []⟩,
      ⟨4, .read, 0, ⟨(some 16), none, .plain (.load (some 2) (.tmp 15))⟩, [], []⟩,
      ⟨5, .pure, 0, ⟨(some 17), none, .plain (.mov (.tmp 0))⟩, [], []⟩,
      ⟨6, .pure, 0, ⟨(some 18), none, .plain (.mov (.tmp 1))⟩, [], []⟩,
      ⟨7, .pure, 0, ⟨(some 19), none, .plain (.iaddr none 2 (.tmp 17) (.tmp 18))⟩, [], []⟩,
      ⟨8, .read, 0, ⟨(some 20), none, .plain (.load (some 2) (.tmp 19))⟩, [], []⟩,
      ⟨9, .chain, 0, ⟨(some 21), none, .callv (.tmp 12) [(.tmp 16), (.tmp 20)]⟩, [], []⟩,
      ⟨10, .pure, 0, ⟨(some 22), none, .plain (.bin .lss (.tmp 21) (.const (.int .i64 0)))⟩, [], []⟩])
   (.cond (.tmp 22)
    (.both (.seq [⟨(some 23), none, .plain (.mov (.tmp 3))⟩,
       ⟨(some 24), none, .plain (.nilCheck (.tmp 23))⟩,
       ⟨(some 25), none, .plain (.load none (.tmp 24))⟩,
       ⟨(some 26), none, .plain (.bin .add (.tmp 25) (.const (.int .i64 1)))⟩,
       ⟨(some 27), none, .plain (.nilCheck (.tmp 23))⟩,
       ⟨none, none, .plain (.store 1 (.tmp 27) (.tmp 26))⟩])
    (.both (.seq [⟨(some 28), none, .plain (.mov (.tmp 2))⟩,
       ⟨(some 29), none, .plain (.mov (.tmp 1))⟩,
       ⟨(some 10), none, .plain (.mov (.tmp 28))⟩,
       ⟨(some 11), none, .plain (.mov (.tmp 29))⟩])
    .ret))
    .skip))
  (.both (.seq [⟨(some 30), none, .plain (.mov (.tmp 1))⟩,
     ⟨(some 31), none, .plain (.mov (.tmp 2))⟩,
     ⟨(some 10), none, .plain (.mov (.tmp 30))⟩,
     ⟨(some 11), none, .plain (.mov (.tmp 31))⟩])
  .ret)))⟩
/-- (fettle/fettleref13.Mem).Read -/
def a151 : AFunc := ⟨3, [.tmp 6, .tmp 7],
  (.both (.seq [⟨(some 6), none, .plain (.mov (.const (.slice none 0 0)))⟩,
     ⟨(some 7), none, .plain (.mov (.const (.int .i64 0)))⟩])
  (.both (.both (.seq [⟨(some 9), none, .plain (.mov (.tmp 1))⟩,
      ⟨(some 10), none, .plain (.bin .lss (.tmp 9) (.const (.int .i64 0)))⟩,
      ⟨(some 11), none, .plain (.mov (.tmp 10))⟩,
      ⟨(some 12), (some (11, false)), .plain (.mov (.tmp 2))⟩,
      ⟨(some 13), (some (11, false)), .plain (.bin .lss (.tmp 12) (.const (.int .i64 0)))⟩,
      ⟨(some 14), none, .plain (.pick (.tmp 11) (.const (.bool true)) (.tmp 13))⟩,
      ⟨(some 15), none, .plain (.mov (.tmp 14))⟩,
      ⟨(some 16), (some (15, false)), .plain (.mov (.tmp 1))⟩,
      ⟨(some 17), (some (15, false)), .plain (.mov (.tmp 0))⟩,
      ⟨(some 18), (some (15, false)), .call 152 [(.tmp 17)]⟩,
      ⟨(some 19), (some (15, false)), .plain (.bin .gtr (.tmp 16) (.tmp 18))⟩,
      ⟨(some 20), none, .plain (.pick (.tmp 15) (.const (.bool true)) (.tmp 19))⟩,
      ⟨(some 21), none, .plain (.mov (.tmp 20))⟩,
      ⟨(some 22), (some (21, false)), .plain (.mov (.tmp 2))⟩,
      ⟨(some 23), (some (21, false)), .plain (.mov (.tmp 0))⟩,
      ⟨(some 24), (some (21, false)), .call 152 [(.tmp 23)]⟩,
      ⟨(some 25), (some (21, false)), .plain (.mov (.tmp 1))⟩,
      ⟨(some 26), (some (21, false)), .plain (.bin .sub (.tmp 24) (.tmp 25))⟩,
      ⟨(some 27), (some (21, false)), .plain (.bin .gtr (.tmp 22) (.tmp 26))⟩,
      ⟨(some 28), none, .plain (.pick (.tmp 21) (.const (.bool true)) (.tmp 27))⟩])
   (.cond (.tmp 28)
    (.both (.seq [⟨(some 6), none, .plain (.mov (.const (.slice none 0 0)))⟩,
       ⟨(some 7), none, .plain (.mov (.const (.int .i64 4)))⟩])
    .ret)
    .skip))
  (.both (.seq [⟨(some 8), none, .plain (.mov (.const (.slice none 0 0)))⟩])
  (.both (.seq [⟨(some 29), none, .plain (.mov (.tmp 8))⟩,
     ⟨(some 30), none, .plain (.mov (.tmp 0))⟩,
     ⟨(some 31), none, .plain (.mov (.tmp 1))⟩,
     ⟨(some 32), none, .plain (.mov (.tmp 1))⟩,
     ⟨(some 33), none, .plain (.mov (.tmp 2))⟩,
     ⟨(some 34), none, .plain (.bin .add (.tmp 32) (.tmp 33))⟩,
     ⟨(some 35), none, .plain (.cut (.sl 1) (.tmp 30) (some (.tmp 31)) (some (.tmp 34)) none)⟩,
     ⟨(some 36), none, .plain (.append ⟨1, 1, [(.int .u8 0)]⟩ false (.tmp 29) (.tmp 35))⟩,
     ⟨(some 6), none, .plain (.mov (.tmp 36))⟩,
     ⟨(some 7), none, .plain (.mov (.const (.int .i64 0)))⟩])
  .ret))))⟩
/-- (fettle/fettleref13.Mem).Size -/
def a152 : AFunc := ⟨1, [.tmp 2],
  (.both (.seq [⟨(some 2), none, .plain (.mov (.const (.int .i64 0)))⟩])
  (.both (.seq [⟨(some 3), none, .plain (.mov (.tmp 0))⟩,
     ⟨(some 4), none, .plain (.len .sl (.tmp 3))⟩,
     ⟨(some 2), none, .plain (.mov (.tmp 4))⟩])
  .ret))⟩
/-- (fettle/parts.Mem).Read -/
def a153 : AFunc := ⟨3, [.tmp 6, .tmp 7],
  (.both (.seq [⟨(some 6), none, .plain (.mov (.const (.slice none 0 0)))⟩,
     ⟨(some 7), none, .plain (.mov (.const (.int .i64 0)))⟩])
  (.both (.both (.seq [⟨(some 8), none, .plain (.mov (.tmp 1))⟩,
      ⟨(some 9), none, .plain (.bin .lss (.tmp 8) (.const (.int .i64 0)))⟩,
      ⟨(some 10), none, .plain (.mov (.tmp 9))⟩,
      ⟨(some 11), (some (10, false)), .plain (.mov (.tmp 2))⟩,
      ⟨(some 12), (some (10, false)), .plain (.bin .lss (.tmp 11) (.const (.int .i64 0)))⟩,
      ⟨(some 13), none, .plain (.pick (.tmp 10) (.const (.bool true)) (.tmp 12))⟩,
      ⟨(some 14), none, .plain (.mov (.tmp 13))⟩,
      ⟨(some 15), (some (14, false)), .plain (.mov (.tmp 1))⟩,
      ⟨(some 16), (some (14, false)), .plain (.mov (.tmp 0))⟩,
      ⟨(some 17), (some (14, false)), .call 154 [(.tmp 16)]⟩,
      ⟨(some 18), (some (14, false)), .plain (.bin .gtr (.tmp 15) (.tmp 17))⟩,
      ⟨(some 19), none, .plain (.pick (.tmp 14) (.const (.bool true)) (.tmp 18))⟩,
      ⟨(some 20), none, .plain (.mov (.tmp 19))⟩,
      ⟨(some 21), (some (20, false)), .plain (.mov (.tmp 2))⟩,
      ⟨(some 22), (some (20, false)), .plain (.mov (.tmp 0))⟩,
      ⟨(some 23), (some (20, false)), .call 154 [(.tmp 22)]⟩,
      ⟨(some 24), (some (20, false)), .plain (.mov (.tmp 1))⟩,
      ⟨(some 25), (some (20, false)), .plain (.bin .sub (.tmp 23) (.tmp 24))⟩,
      ⟨(some 26), (some (20, false)), .plain (.bin .gtr (.tmp 21) (.tmp 25))⟩,
      ⟨(some 27), none, .plain (.pick (.tmp 20) (.const (.bool true)) (.tmp 26))⟩])
   (.cond (.tmp 27)
    (.both (.seq [⟨(some 6), none, .plain (.mov (.const (.slice none 0 0)))⟩,
       ⟨(some 7), none, .plain (.mov (.const (.int .i64 4)))⟩])
    .ret)
    .skip))
  (.both (.seq [⟨(some 28), none, .plain (.mov (.tmp 0))⟩,
     ⟨(some 29), none, .plain (.mov (.tmp 1))⟩,
     ⟨(some 30), none, .plain (.mov (.tmp 1))⟩,
     ⟨(some 31), none, .plain (.mov (.tmp 2))⟩,
     ⟨(some 32), none, .plain (.bin .add (.tmp 30) (.tmp 31))⟩,
     ⟨(some 33), none, .plain (.cut (.sl 1) (.tmp 28) (some (.tmp 29)) (some (.tmp 32)) none)⟩,
     ⟨(some 34), none, .plain (.append ⟨1, 1, [(.int .u8 0)]⟩ false (.const (.slice none 0 0)) (.tmp 33))⟩,
     ⟨(some 6), none, .plain (.mov (.tmp 34))⟩,
     ⟨(some 7), none, .plain (.mov (.const (.int .i64 0)))⟩])
  .ret)))⟩
/-- (fettle/parts.Mem).Size -/
def a154 : AFunc := ⟨1, [.tmp 2],
  (.both (.seq [⟨(some 2), none, .plain (.mov (.const (.int .i64 0)))⟩])
  (.both (.seq [⟨(some 3), none, .plain (.mov (.tmp 0))⟩,
     ⟨(some 4), none, .plain (.len .sl (.tmp 3))⟩,
     ⟨(some 2), none, .plain (.mov (.tmp 4))⟩])
  .ret))⟩
def tabL : List (FuncId × AEntry) := [(8, .code a8), (10, .code a10), (21, .code a21), (22, .code a22), (23, .code a23), (24, .code a24), (26, .code a26), (27, .code a27), (28, .code a28), (29, .code a29), (30, .code a30), (31, .code a31), (34, .code a34), (36, .code a36), (39, .code a39), (40, .code a40), (41, .code a41), (42, .code a42), (44, .code a44), (45, .code a45), (46, .code a46), (47, .code a47), (52, .code a52), (60, .code a60), (61, .code a61), (62, .code a62), (63, .code a63), (64, .code a64), (65, .code a65), (66, .code a66), (67, .code a67), (68, .code a68), (78, .code a78), (79, .code a79), (80, .code a80), (81, .code a81), (83, .code a83), (88, .code a88), (89, .code a89), (90, .code a90), (91, .code a91), (92, .code a92), (99, .code a99), (100, .code a100), (101, .code a101), (102, .code a102), (103, .code a103), (105, .code a105), (113, .code a113), (114, .code a114), (115, .code a115), (116, .code a116), (119, .code a119), (120, .code a120), (121, .code a121), (122, .code a122), (123, .code a123), (124, .code a124), (125, .code a125), (126, .code a126), (127, .code a127), (128, .code a128), (129, .code a129), (130, .code a130), (131, .code a131), (132, .code a132), (133, .code a133), (134, .code a134), (151, .code a151), (152, .code a152), (153, .code a153), (154, .code a154)]
def tab : Tr AEntry := (.node none (.node none (.node none (.node none (.node none (.node (some (.code a31)) (.node (some (.code a63)) (.node (some (.code a127)) .leaf .leaf) .leaf) .leaf) (.node (some (.code a47)) (.node (some (.code a79)) .leaf .leaf) .leaf)) (.node (some (.code a23)) (.node (some (.code a39)) .leaf (.node (some (.code a103)) .leaf .leaf)) (.node none (.node none (.node (some (.code a151)) .leaf .leaf) .leaf) (.node (some (.code a119)) .leaf .leaf)))) (.node none (.node none (.node none (.node (some (.code a67)) (.node (some (.code a131)) .leaf .leaf) .leaf) (.node (some (.code a99)) .leaf .leaf)) (.node none (.node (some (.code a83)) .leaf .leaf) (.node (some (.code a115)) .leaf .leaf))) (.node (some (.code a27)) .leaf (.node none (.node (some (.code a91)) .leaf .leaf) (.node (some (.code a123)) .leaf .leaf))))) (.node none (.node none (.node none (.node none (.node (some (.code a65)) (.node (some (.code a129)) .leaf .leaf) .leaf) .leaf) (.node none (.node (some (.code a81)) .leaf .leaf) (.node (some (.code a113)) .leaf .leaf))) (.node none (.node (some (.code a41)) .leaf (.node (some (.code a105)) .leaf .leaf)) (.node none (.node (some (.code a89)) (.node (some (.code a153)) .leaf .leaf) .leaf) (.node (some (.code a121)) .leaf .leaf)))) (.node none (.node (some (.code a21)) (.node none (.node none (.node (some (.code a133)) .leaf .leaf) .leaf) (.node (some (.code a101)) .leaf .leaf)) .leaf) (.node (some (.code a29)) (.node (some (.code a45)) .leaf .leaf) (.node (some (.code a61)) .leaf (.node (some (.code a125)) .leaf .leaf)))))) (.node none (.node none (.node (some (.code a8)) (.node none (.node none (.node (some (.code a64)) (.node (some (.code a128)) .leaf .leaf) .leaf) .leaf) (.node none (.node (some (.code a80)) .leaf .leaf) .leaf)) (.node (some (.code a24)) (.node (some (.code a40)) .leaf .leaf) (.node none (.node (some (.code a88)) (.node (some (.code a152)) .leaf .leaf) .leaf) (.node (some (.code a120)) .leaf .leaf)))) (.node none (.node none (.node (some (.code a36)) (.node (some (.code a68)) (.node (some (.code a132)) .leaf .leaf) .leaf) (.node (some (.code a100)) .leaf .leaf)) (.node (some (.code a52)) .leaf (.node (some (.code a116)) .leaf .leaf))) (.node (some (.code a28)) (.node (some (.code a44)) .leaf .leaf) (.node (some (.code a60)) (.node (some (.code a92)) .leaf .leaf) (.node (some (.code a124)) .leaf .leaf))))) (.node none (.node (some (.code a10)) (.node none (.node (some (.code a34)) (.node (some (.code a66)) (.node (some (.code a130)) .leaf .leaf) .leaf) .leaf) (.node none .leaf (.node (some (.code a114)) .leaf .leaf))) (.node (some (.code a26)) (.node (some (.code a42)) .leaf .leaf) (.node none (.node (some (.code a90)) (.node (some (.code a154)) .leaf .leaf) .leaf) (.node (some (.code a122)) .leaf .leaf)))) (.node none (.node (some (.code a22)) (.node none (.node none (.node (some (.code a134)) .leaf .leaf) .leaf) (.node (some (.code a102)) .leaf .leaf)) .leaf) (.node (some (.code a30)) (.node (some (.code a46)) (.node (some (.code a78)) .leaf .leaf) .leaf) (.node (some (.code a62)) .leaf (.node (some (.code a126)) .leaf .leaf)))))))
theorem ok8 : callOk Try.prog 8 = true ∧ compF Try.prog 8 = some a8 := ⟨by kernel_rfl, by kernel_rfl⟩
theorem ok10 : callOk Try.prog 10 = true ∧ compF Try.prog 10 = some a10 := ⟨by kernel_rfl, by kernel_rfl⟩
theorem ok21 : callOk Try.prog 21 = true ∧ compF Try.prog 21 = some a21 := ⟨by kernel_rfl, by kernel_rfl⟩
theorem ok22 : callOk Try.prog 22 = true ∧ compF Try.prog 22 = some a22 := ⟨by kernel_rfl, by kernel_rfl⟩
theorem ok23 : callOk Try.prog 23 = true ∧ compF Try.prog 23 = some a23 := ⟨by kernel_rfl, by kernel_rfl⟩
theorem ok24 : callOk Try.prog 24 = true ∧ compF Try.prog 24 = some a24 := ⟨by kernel_rfl, by kernel_rfl⟩
theorem ok26 : callOk Try.prog 26 = true ∧ compF Try.prog 26 = some a26 := ⟨by kernel_rfl, by kernel_rfl⟩
theorem ok27 : callOk Try.prog 27 = true ∧ compF Try.prog 27 = some a27 := ⟨by kernel_rfl, by kernel_rfl⟩
theorem ok28 : callOk Try.prog 28 = true ∧ compF Try.prog 28 = some a28 := ⟨by kernel_rfl, by kernel_rfl⟩
theorem ok29 : callOk Try.prog 29 = true ∧ compF Try.prog 29 = some a29 := ⟨by kernel_rfl, by kernel_rfl⟩
theorem ok30 : callOk Try.prog 30 = true ∧ compF Try.prog 30 = some a30 := ⟨by kernel_rfl, by kernel_rfl⟩
theorem ok31 : callOk Try.prog 31 = true ∧ compF Try.prog 31 = some a31 := ⟨by kernel_rfl, by kernel_rfl⟩
theorem ok34 : callOk Try.prog 34 = true ∧ compF Try.prog 34 = some a34 := ⟨by kernel_rfl, by kernel_rfl⟩
theorem ok36 : callOk Try.prog 36 = true ∧ compF Try.prog 36 = some a36 := ⟨by kernel_rfl, by kernel_rfl⟩
theorem ok39 : callOk Try.prog 39 = true ∧ compF Try.prog 39 = some a39 := ⟨by kernel_rfl, by kernel_rfl⟩
theorem ok40 : callOk Try.prog 40 = true ∧ compF Try.prog 40 = some a40 := ⟨by kernel_rfl, by kernel_rfl⟩
theorem ok41 : callOk Try.prog 41 = true ∧ compF Try.prog 41 = some a41 := ⟨by kernel_rfl, by kernel_rfl⟩
theorem ok42 : callOk Try.prog 42 = true ∧ compF Try.prog 42 = some a42 := ⟨by kernel_rfl, by kernel_rfl⟩
theorem ok44 : callOk Try.prog 44 = true ∧ compF Try.prog 44 = some a44 := ⟨by kernel_rfl, by kernel_rfl⟩
theorem ok45 : callOk Try.prog 45 = true ∧ compF Try.prog 45 = some a45 := ⟨by kernel_rfl, by kernel_rfl⟩
theorem ok46 : callOk Try.prog 46 = true ∧ compF Try.prog 46 = some a46 := ⟨by kernel_rfl, by kernel_rfl⟩
theorem ok47 : callOk Try.prog 47 = true ∧ compF Try.prog 47 = some a47 := ⟨by kernel_rfl, by kernel_rfl⟩
theorem ok52 : callOk Try.prog 52 = true ∧ compF Try.prog 52 = some a52 := ⟨by kernel_rfl, by kernel_rfl⟩
theorem ok60 : callOk Try.prog 60 = true ∧ compF Try.prog 60 = some a60 := ⟨by kernel_rfl, by kernel_rfl⟩
theorem ok61 : callOk Try.prog 61 = true ∧ compF Try.prog 61 = some a61 := ⟨by kernel_rfl, by kernel_rfl⟩
theorem ok62 : callOk Try.prog 62 = true ∧ compF Try.prog 62 = some a62 := ⟨by kernel_rfl, by kernel_rfl⟩
theorem ok63 : callOk Try.prog 63 = true ∧ compF Try.prog 63 = some a63 := ⟨by kernel_rfl, by kernel_rfl⟩
theorem ok64 : callOk Try.prog 64 = true ∧ compF Try.prog 64 = some a64 := ⟨by kernel_rfl, by kernel_rfl⟩
theorem ok65 : callOk Try.prog 65 = true ∧ compF Try.prog 65 = some a65 := ⟨by kernel_rfl, by kernel_rfl⟩
theorem ok66 : callOk Try.prog 66 = true ∧ compF Try.prog 66 = some a66 := ⟨by kernel_rfl, by kernel_rfl⟩
theorem ok67 : callOk Try.prog 67 = true ∧ compF Try.prog 67 = some a67 := ⟨by kernel_rfl, by kernel_rfl⟩
theorem ok68 : callOk Try.prog 68 = true ∧ compF Try.prog 68 = some a68 := ⟨by kernel_rfl, by kernel_rfl⟩
theorem ok78 : callOk Try.prog 78 = true ∧ compF Try.prog 78 = some a78 := ⟨by kernel_rfl, by kernel_rfl⟩
theorem ok79 : callOk Try.prog 79 = true ∧ compF Try.prog 79 = some a79 := ⟨by kernel_rfl, by kernel_rfl⟩
theorem ok80 : callOk Try.prog 80 = true ∧ compF Try.prog 80 = some a80 := ⟨by kernel_rfl, by kernel_rfl⟩
theorem ok81 : callOk Try.prog 81 = true ∧ compF Try.prog 81 = some a81 := ⟨by kernel_rfl, by kernel_rfl⟩
theorem ok83 : callOk Try.prog 83 = true ∧ compF Try.prog 83 = some a83 := ⟨by kernel_rfl, by kernel_rfl⟩
theorem ok88 : callOk Try.prog 88 = true ∧ compF Try.prog 88 = some a88 := ⟨by kernel_rfl, by kernel_rfl⟩
theorem ok89 : callOk Try.prog 89 = true ∧ compF Try.prog 89 = some a89 := ⟨by kernel_rfl, by kernel_rfl⟩
theorem ok90 : callOk Try.prog 90 = true ∧ compF Try.prog 90 = some a90 := ⟨by kernel_rfl, by kernel_rfl⟩
theorem ok91 : callOk Try.prog 91 = true ∧ compF Try.prog 91 = some a91 := ⟨by kernel_rfl, by kernel_rfl⟩
theorem ok92 : callOk Try.prog 92 = true ∧ compF Try.prog 92 = some a92 := ⟨by kernel_rfl, by kernel_rfl⟩
theorem ok99 : callOk Try.prog 99 = true ∧ compF Try.prog 99 = some a99 := ⟨by kernel_rfl, by kernel_rfl⟩
theorem ok100 : callOk Try.prog 100 = true ∧ compF Try.prog 100 = some a100 := ⟨by kernel_rfl, by kernel_rfl⟩
theorem ok101 : callOk Try.prog 101 = true ∧ compF Try.prog 101 = some a101 := ⟨by kernel_rfl, by kernel_rfl⟩
theorem ok102 : callOk Try.prog 102 = true ∧ compF Try.prog 102 = some a102 := ⟨by kernel_rfl, by kernel_rfl⟩
theorem ok103 : callOk Try.prog 103 = true ∧ compF Try.prog 103 = some a103 := ⟨by kernel_rfl, by kernel_rfl⟩
theorem ok105 : callOk Try.prog 105 = true ∧ compF Try.prog 105 = some a105 := ⟨by kernel_rfl, by kernel_rfl⟩
theorem ok113 : callOk Try.prog 113 = true ∧ compF Try.prog 113 = some a113 := ⟨by kernel_rfl, by kernel_rfl⟩
theorem ok114 : callOk Try.prog 114 = true ∧ compF Try.prog 114 = some a114 := ⟨by kernel_rfl, by kernel_rfl⟩
theorem ok115 : callOk Try.prog 115 = true ∧ compF Try.prog 115 = some a115 := ⟨by kernel_rfl, by kernel_rfl⟩
theorem ok116 : callOk Try.prog 116 = true ∧ compF Try.prog 116 = some a116 := ⟨by kernel_rfl, by kernel_rfl⟩
theorem ok119 : callOk Try.prog 119 = true ∧ compF Try.prog 119 = some a119 := ⟨by kernel_rfl, by kernel_rfl⟩
theorem ok120 : callOk Try.prog 120 = true ∧ compF Try.prog 120 = some a120 := ⟨by kernel_rfl, by kernel_rfl⟩
theorem ok121 : callOk Try.prog 121 = true ∧ compF Try.prog 121 = some a121 := ⟨by kernel_rfl, by kernel_rfl⟩
theorem ok122 : callOk Try.prog 122 = true ∧ compF Try.prog 122 = some a122 := ⟨by kernel_rfl, by kernel_rfl⟩
theorem ok123 : callOk Try.prog 123 = true ∧ compF Try.prog 123 = some a123 := ⟨by kernel_rfl, by kernel_rfl⟩
theorem ok124 : callOk Try.prog 124 = true ∧ compF Try.prog 124 = some a124 := ⟨by kernel_rfl, by kernel_rfl⟩
theorem ok125 : callOk Try.prog 125 = true ∧ compF Try.prog 125 = some a125 := ⟨by kernel_rfl, by kernel_rfl⟩
theorem ok126 : callOk Try.prog 126 = true ∧ compF Try.prog 126 = some a126 := ⟨by kernel_rfl, by kernel_rfl⟩
theorem ok127 : callOk Try.prog 127 = true ∧ compF Try.prog 127 = some a127 := ⟨by kernel_rfl, by kernel_rfl⟩
theorem ok128 : callOk Try.prog 128 = true ∧ compF Try.prog 128 = some a128 := ⟨by kernel_rfl, by kernel_rfl⟩
theorem ok129 : callOk Try.prog 129 = true ∧ compF Try.prog 129 = some a129 := ⟨by kernel_rfl, by kernel_rfl⟩
theorem ok130 : callOk Try.prog 130 = true ∧ compF Try.prog 130 = some a130 := ⟨by kernel_rfl, by kernel_rfl⟩
theorem ok131 : callOk Try.prog 131 = true ∧ compF Try.prog 131 = some a131 := ⟨by kernel_rfl, by kernel_rfl⟩
theorem ok132 : callOk Try.prog 132 = true ∧ compF Try.prog 132 = some a132 := ⟨by kernel_rfl, by kernel_rfl⟩
theorem ok133 : callOk Try.prog 133 = true ∧ compF Try.prog 133 = some a133 := ⟨by kernel_rfl, by kernel_rfl⟩
theorem ok134 : callOk Try.prog 134 = true ∧ compF Try.prog 134 = some a134 := ⟨by kernel_rfl, by kernel_rfl⟩
theorem ok151 : callOk Try.prog 151 = true ∧ compF Try.prog 151 = some a151 := ⟨by kernel_rfl, by kernel_rfl⟩
theorem ok152 : callOk Try.prog 152 = true ∧ compF Try.prog 152 = some a152 := ⟨by kernel_rfl, by kernel_rfl⟩
theorem ok153 : callOk Try.prog 153 = true ∧ compF Try.prog 153 = some a153 := ⟨by kernel_rfl, by kernel_rfl⟩
theorem ok154 : callOk Try.prog 154 = true ∧ compF Try.prog 154 = some a154 := ⟨by kernel_rfl, by kernel_rfl⟩
theorem tabOk : TabSound Try.prog (fun f => tab.get f) := tr_sound (l := tabL) (by kernel_rfl) ⟨ok8, ok10, ok21, ok22, ok23, ok24, ok26, ok27, ok28, ok29, ok30, ok31, ok34, ok36, ok39, ok40, ok41, ok42, ok44, ok45, ok46, ok47, ok52, ok60, ok61, ok62, ok63, ok64, ok65, ok66, ok67, ok68, ok78, ok79, ok80, ok81, ok83, ok88, ok89, ok90, ok91, ok92, ok99, ok100, ok101, ok102, ok103, ok105, ok113, ok114, ok115, ok116, ok119, ok120, ok121, ok122, ok123, ok124, ok125, ok126, ok127, ok128, ok129, ok130, ok131, ok132, ok133, ok134, ok151, ok152, ok153, ok154, trivial⟩
theorem follows : Try.prog.follows .mixedOrders = true := by kernel_rfl
end Go.Proofs.Ytgapfoaklgganaa.AMC
