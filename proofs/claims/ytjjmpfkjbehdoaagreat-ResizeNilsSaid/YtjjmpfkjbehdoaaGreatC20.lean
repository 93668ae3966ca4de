import Derived.Test.YtjjmpfkjbehdoaaGreatProg
import Derived.Test.YtjjmpfkjbehdoaaGreatAM28
set_option maxRecDepth 100000
/-! The compiled functions; written by a program. -/
namespace Go.Proofs.YtjjmpfkjbehdoaaGreat.AMC
open Go Go.AM Go.Proofs
/-- fettle/fettlelaw20.ResizeNils -/
def a3 : AFunc := ⟨1, [.tmp 2],
  (.both (.seq [⟨(some 2), none, .plain (.mov (.const (.bool false)))⟩])
  (.both (.seq [⟨(some 14), none, .call 4 [(.const .nilIface)]⟩,
     ⟨(some 13), none, .plain (.mov (.tmp 14))⟩,
     ⟨(some 15), none, .plain (.extract (.tmp 13) 0)⟩,
     ⟨(some 16), none, .plain (.extract (.tmp 13) 1)⟩,
     ⟨(some 17), none, .plain (.extract (.tmp 13) 2)⟩,
     ⟨(some 18), none, .plain (.extract (.tmp 13) 3)⟩,
     ⟨(some 3), none, .plain (.mov (.tmp 15))⟩,
     ⟨(some 4), none, .plain (.mov (.tmp 16))⟩,
     ⟨(some 5), none, .plain (.mov (.tmp 17))⟩,
     ⟨(some 6), none, .plain (.mov (.tmp 18))⟩])
  (.both (.seq [⟨(some 20), none, .plain (.mov (.tmp 0))⟩,
     ⟨(some 21), none, .call 5 [(.const .nilIface), (.tmp 20)]⟩,
     ⟨(some 19), none, .plain (.mov (.tmp 21))⟩,
     ⟨(some 22), none, .plain (.extract (.tmp 19) 0)⟩,
     ⟨(some 23), none, .plain (.extract (.tmp 19) 1)⟩,
     ⟨(some 7), none, .plain (.mov (.tmp 22))⟩,
     ⟨(some 8), none, .plain (.mov (.tmp 23))⟩])
  (.both (.seq [⟨(some 25), none, .plain (.mov (.tmp 0))⟩,
     ⟨(some 26), none, .call 6 [(.const .nilIface), (.tmp 25)]⟩,
     ⟨(some 24), none, .plain (.mov (.tmp 26))⟩,
     ⟨(some 27), none, .plain (.extract (.tmp 24) 0)⟩,
     ⟨(some 28), none, .plain (.extract (.tmp 24) 1)⟩,
     ⟨(some 9), none, .plain (.mov (.tmp 27))⟩,
     ⟨(some 10), none, .plain (.mov (.tmp 28))⟩])
  (.both (.seq [⟨(some 30), none, .plain (.mov (.tmp 0))⟩,
     ⟨(some 31), none, .call 7 [(.const .nilIface), (.tmp 30)]⟩,
     ⟨(some 29), none, .plain (.mov (.tmp 31))⟩,
     ⟨(some 32), none, .plain (.extract (.tmp 29) 0)⟩,
     ⟨(some 33), none, .plain (.extract (.tmp 29) 1)⟩,
     ⟨(some 11), none, .plain (.mov (.tmp 32))⟩,
     ⟨(some 12), none, .plain (.mov (.tmp 33))⟩])
  (.both (.seq [⟨(some 34), none, .call 8 []⟩,
     ⟨(some 35), none, .plain (.mov (.tmp 34))⟩,
     ⟨(some 36), (some (35, true)), .plain (.mov (.tmp 3))⟩,
     ⟨(some 37), (some (35, true)), .plain (.bin .eql (.tmp 36) (.const (.int .i64 0)))⟩,
     ⟨(some 38), none, .plain (.pick (.tmp 35) (.tmp 37) (.const (.bool false)))⟩,
     ⟨(some 39), none, .plain (.mov (.tmp 38))⟩,
     ⟨(some 40), (some (39, true)), .plain (.mov (.tmp 6))⟩,
     ⟨(some 41), (some (39, true)), .plain (.bin .eql (.tmp 40) (.const (.int .i64 2)))⟩,
     ⟨(some 42), none, .plain (.pick (.tmp 39) (.tmp 41) (.const (.bool false)))⟩,
     ⟨(some 43), none, .plain (.mov (.tmp 42))⟩,
     ⟨(some 44), (some (43, true)), .plain (.mov (.tmp 8))⟩,
     ⟨(some 45), (some (43, true)), .plain (.bin .eql (.tmp 44) (.const (.int .i64 2)))⟩,
     ⟨(some 46), none, .plain (.pick (.tmp 43) (.tmp 45) (.const (.bool false)))⟩,
     ⟨(some 47), none, .plain (.mov (.tmp 46))⟩,
     ⟨(some 48), (some (47, true)), .plain (.mov (.tmp 10))⟩,
     ⟨(some 49), (some (47, true)), .plain (.bin .eql (.tmp 48) (.const (.int .i64 2)))⟩,
     ⟨(some 50), none, .plain (.pick (.tmp 47) (.tmp 49) (.const (.bool false)))⟩,
     ⟨(some 51), none, .plain (.mov (.tmp 50))⟩,
     ⟨(some 52), (some (51, true)), .plain (.mov (.tmp 12))⟩,
     ⟨(some 53), (some (51, true)), .plain (.bin .eql (.tmp 52) (.const (.int .i64 2)))⟩,
     ⟨(some 54), none, .plain (.pick (.tmp 51) (.tmp 53) (.const (.bool false)))⟩,
     ⟨(some 2), none, .plain (.mov (.tmp 54))⟩])
  .ret))))))⟩
/-- fettle/resize.Known -/
def a4 : AFunc := ⟨1, [.tmp 2, .tmp 3, .tmp 4, .tmp 5],
  (.both (.seq [⟨(some 2), none, .plain (.mov (.const (.int .i64 0)))⟩,
     ⟨(some 3), none, .plain (.mov (.const (.slice none 0 0)))⟩,
     ⟨(some 4), none, .plain (.mov (.const (.slice none 0 0)))⟩,
     ⟨(some 5), none, .plain (.mov (.const (.int .i64 0)))⟩])
  (.both (.seq [⟨(some 8), none, .plain (.mov (.tmp 0))⟩,
     ⟨(some 9), none, .call 9 [(.tmp 8)]⟩,
     ⟨(some 7), none, .plain (.mov (.tmp 9))⟩,
     ⟨(some 10), none, .plain (.extract (.tmp 7) 0)⟩,
     ⟨(some 11), none, .plain (.extract (.tmp 7) 1)⟩,
     ⟨(some 12), none, .plain (.extract (.tmp 7) 2)⟩,
     ⟨(some 3), none, .plain (.mov (.tmp 10))⟩,
     ⟨(some 4), none, .plain (.mov (.tmp 11))⟩,
     ⟨(some 5), none, .plain (.mov (.tmp 12))⟩])
  (.both (.both (.seq [⟨(some 13), none, .plain (.mov (.tmp 5))⟩])
   (.block 0 (.both (.seq [⟨(some 15), none, .plain (.bin .eql (.tmp 13) (.const (.int .i64 0)))⟩,
       ⟨(some 14), none, .plain (.mov (.tmp 15))⟩])
    (.cond (.tmp 14)
     (.both (.seq [⟨(some 16), none, .plain (.mov (.tmp 3))⟩,
        ⟨(some 17), none, .plain (.mov (.tmp 4))⟩,
        ⟨(some 2), none, .plain (.mov (.const (.int .i64 1)))⟩,
        ⟨(some 3), none, .plain (.mov (.tmp 16))⟩,
        ⟨(some 4), none, .plain (.mov (.tmp 17))⟩,
        ⟨(some 5), none, .plain (.mov (.const (.int .i64 0)))⟩])
     .ret)
     (.both (.seq [⟨(some 19), none, .plain (.bin .eql (.tmp 13) (.const (.int .i64 5)))⟩,
        ⟨(some 18), none, .plain (.mov (.tmp 19))⟩])
     (.cond (.tmp 18)
      (.both (.seq [⟨(some 20), none, .plain (.mov (.tmp 5))⟩,
         ⟨(some 2), none, .plain (.mov (.const (.int .i64 0)))⟩,
         ⟨(some 3), none, .plain (.mov (.const (.slice none 0 0)))⟩,
         ⟨(some 4), none, .plain (.mov (.const (.slice none 0 0)))⟩,
         ⟨(some 5), none, .plain (.mov (.tmp 20))⟩])
      .ret)
      .skip))))))
  (.both (.seq [⟨(some 22), none, .plain (.mov (.tmp 0))⟩,
     ⟨(some 23), none, .call 10 [(.tmp 22)]⟩,
     ⟨(some 21), none, .plain (.mov (.tmp 23))⟩,
     ⟨(some 24), none, .plain (.extract (.tmp 21) 0)⟩,
     ⟨(some 25), none, .plain (.extract (.tmp 21) 1)⟩,
     ⟨(some 26), none, .plain (.extract (.tmp 21) 2)⟩,
     ⟨(some 3), none, .plain (.mov (.tmp 24))⟩,
     ⟨(some 4), none, .plain (.mov (.tmp 25))⟩,
     ⟨(some 6), none, .plain (.mov (.tmp 26))⟩])
  (.both (.block 1 (.both (.seq [⟨(some 28), none, .plain (.mov (.tmp 6))⟩,
       ⟨(some 29), none, .plain (.bin .eql (.tmp 28) (.const (.int .i64 0)))⟩,
       ⟨(some 27), none, .plain (.mov (.tmp 29))⟩])
    (.cond (.tmp 27)
     (.both (.seq [⟨(some 30), none, .plain (.mov (.tmp 3))⟩,
        ⟨(some 31), none, .plain (.mov (.tmp 4))⟩,
        ⟨(some 2), none, .plain (.mov (.const (.int .i64 2)))⟩,
        ⟨(some 3), none, .plain (.mov (.tmp 30))⟩,
        ⟨(some 4), none, .plain (.mov (.tmp 31))⟩,
        ⟨(some 5), none, .plain (.mov (.const (.int .i64 0)))⟩])
     .ret)
     (.both (.seq [⟨(some 33), none, .plain (.mov (.tmp 6))⟩,
        ⟨(some 34), none, .plain (.bin .eql (.tmp 33) (.const (.int .i64 5)))⟩,
        ⟨(some 32), none, .plain (.mov (.tmp 34))⟩])
     (.cond (.tmp 32)
      (.seq [⟨(some 35), none, .plain (.mov (.tmp 6))⟩,
        ⟨(some 5), none, .plain (.mov (.tmp 35))⟩])
      (.both (.seq [⟨(some 37), none, .plain (.mov (.tmp 5))⟩,
         ⟨(some 38), none, .plain (.bin .eql (.tmp 37) (.const (.int .i64 10)))⟩,
         ⟨(some 39), none, .plain (.mov (.tmp 38))⟩,
         ⟨(some 40), (some (39, false)), .plain (.mov (.tmp 5))⟩,
         ⟨(some 41), (some (39, false)), .plain (.bin .eql (.tmp 40) (.const (.int .i64 4)))⟩,
         ⟨(some 42), (some (39, false)), .plain (.mov (.tmp 41))⟩,
         ⟨(some 43), (some (42, true)), .plain (.mov (.tmp 6))⟩,
         ⟨(some 44), (some (42, true)), .plain (.bin .neq (.tmp 43) (.const (.int .i64 10)))⟩,
         ⟨(some 45), (some (39, false)), .plain (.pick (.tmp 42) (.tmp 44) (.const (.bool false)))⟩,
         ⟨(some 46), none, .plain (.pick (.tmp 39) (.const (.bool true)) (.tmp 45))⟩,
         ⟨(some 36), none, .plain (.mov (.tmp 46))⟩])
      (.cond (.tmp 36)
       (.seq [⟨(some 47), none, .plain (.mov (.tmp 6))⟩,
         ⟨(some 5), none, .plain (.mov (.tmp 47))⟩])
       .skip)))))))
  (.both (.seq [⟨(some 48), none, .plain (.mov (.tmp 5))⟩,
     ⟨(some 2), none, .plain (.mov (.const (.int .i64 0)))⟩,
     ⟨(some 3), none, .plain (.mov (.const (.slice none 0 0)))⟩,
     ⟨(some 4), none, .plain (.mov (.const (.slice none 0 0)))⟩,
     ⟨(some 5), none, .plain (.mov (.tmp 48))⟩])
  .ret))))))⟩
/-- fettle/resize.Last -/
def a5 : AFunc := ⟨2, [.tmp 4, .tmp 5],
  (.both (.seq [⟨(some 4), none, .plain (.mov (.const (.slice none 0 0)))⟩,
     ⟨(some 5), none, .plain (.mov (.const (.int .i64 0)))⟩])
  (.both (.both (.seq [⟨(some 17), none, .plain (.mov (.tmp 0))⟩,
      ⟨(some 18), none, .plain (.eqN false .iface true (.tmp 17) (.const .nilIface))⟩])
   (.cond (.tmp 18)
    (.both (.seq [⟨(some 4), none, .plain (.mov (.const (.slice none 0 0)))⟩,
       ⟨(some 5), none, .plain (.mov (.const (.int .i64 2)))⟩])
    .ret)
    .skip))
  (.both (.seq [⟨(some 20), none, .plain (.mov (.tmp 0))⟩,
     ⟨(some 21), none, .call 11 [(.tmp 20)]⟩,
     ⟨(some 19), none, .plain (.mov (.tmp 21))⟩,
     ⟨(some 22), none, .plain (.extract (.tmp 19) 0)⟩,
     ⟨(some 23), none, .plain (.extract (.tmp 19) 1)⟩,
     ⟨(some 6), none, .plain (.alloc [(.int .i64 0), (.slice none 0 0), (.slice none 0 0), (.slice none 0 0), (.slice none 0 0), (.slice none 0 0), (.int .i64 0), (.int .i64 0), (.bool false), (.int .i64 0), (.int .i64 0), (.int .i64 0), (.int .u8 0), (.int .u8 0), (.int .u8 0), (.int .u8 0), (.int .u8 0), (.int .u8 0), (.int .u8 0), (.int .u8 0), (.int .u8 0), (.int .u8 0), (.int .u8 0), (.int .u8 0), (.int .u8 0), (.int .u8 0), (.int .u8 0), (.int .u8 0), (.slice none 0 0), (.int .i64 0), (.int .i64 0)])⟩,
     ⟨none, none, .plain (.store 31 (.tmp 6) (.tmp 22))⟩,
     ⟨(some 7), none, .plain (.mov (.tmp 23))⟩])
  (.both (.both (.seq [⟨(some 24), none, .plain (.mov (.tmp 7))⟩,
      ⟨(some 25), none, .plain (.bin .neq (.tmp 24) (.const (.int .i64 0)))⟩])
   (.cond (.tmp 25)
    (.both (.seq [⟨(some 26), none, .plain (.mov (.tmp 7))⟩,
       ⟨(some 4), none, .plain (.mov (.const (.slice none 0 0)))⟩,
       ⟨(some 5), none, .plain (.mov (.tmp 26))⟩])
    .ret)
    .skip))
  (.both (.seq [⟨(some 28), none, .plain (.load (some 31) (.tmp 6))⟩,
     ⟨(some 29), none, .call 12 [(.tmp 28)]⟩,
     ⟨(some 27), none, .plain (.mov (.tmp 29))⟩,
     ⟨(some 30), none, .plain (.extract (.tmp 27) 0)⟩,
     ⟨(some 31), none, .plain (.extract (.tmp 27) 1)⟩,
     ⟨(some 8), none, .plain (.alloc [(.int .i64 0), (.int .i64 0), (.int .i64 0), (.int .i64 0)])⟩,
     ⟨none, none, .plain (.store 4 (.tmp 8) (.tmp 30))⟩,
     ⟨(some 9), none, .plain (.mov (.tmp 31))⟩])
  (.both (.both (.seq [⟨(some 32), none, .plain (.mov (.tmp 9))⟩,
      ⟨(some 33), none, .plain (.un .not (.tmp 32))⟩])
   (.cond (.tmp 33)
    (.both (.seq [⟨(some 4), none, .plain (.mov (.const (.slice none 0 0)))⟩,
       ⟨(some 5), none, .plain (.mov (.const (.int .i64 22)))⟩])
    .ret)
    .skip))
  (.both (.seq [⟨(some 35), none, .plain (.mov (.tmp 0))⟩,
     ⟨(some 36), none, .plain (.faddr 0 (.tmp 8))⟩,
     ⟨(some 37), none, .plain (.load (some 2) (.tmp 36))⟩,
     ⟨(some 38), none, .call 13 [(.tmp 35), (.tmp 37)]⟩,
     ⟨(some 34), none, .plain (.mov (.tmp 38))⟩,
     ⟨(some 39), none, .plain (.extract (.tmp 34) 0)⟩,
     ⟨(some 40), none, .plain (.extract (.tmp 34) 1)⟩,
     ⟨(some 10), none, .plain (.mov (.tmp 39))⟩,
     ⟨(some 7), none, .plain (.mov (.tmp 40))⟩])
  (.both (.both (.seq [⟨(some 41), none, .plain (.mov (.tmp 7))⟩,
      ⟨(some 42), none, .plain (.bin .neq (.tmp 41) (.const (.int .i64 0)))⟩])
   (.cond (.tmp 42)
    (.both (.seq [⟨(some 43), none, .plain (.mov (.tmp 7))⟩,
       ⟨(some 4), none, .plain (.mov (.const (.slice none 0 0)))⟩,
       ⟨(some 5), none, .plain (.mov (.tmp 43))⟩])
    .ret)
    .skip))
  (.both (.seq [⟨(some 45), none, .plain (.mov (.tmp 10))⟩,
     ⟨(some 46), none, .call 4 [(.tmp 45)]⟩,
     ⟨(some 44), none, .plain (.mov (.tmp 46))⟩,
     ⟨(some 47), none, .plain (.extract (.tmp 44) 0)⟩,
     ⟨(some 48), none, .plain (.extract (.tmp 44) 1)⟩,
     ⟨(some 49), none, .plain (.extract (.tmp 44) 2)⟩,
     ⟨(some 50), none, .plain (.extract (.tmp 44) 3)⟩,
     ⟨(some 11), none, .plain (.mov (.tmp 47))⟩,
     ⟨(some 12), none, .plain (.mov (.tmp 48))⟩,
     ⟨(some 13), none, .plain (.mov (.tmp 49))⟩,
     ⟨(some 7), none, .plain (.mov (.tmp 50))⟩])
  (.both (.both (.seq [⟨(some 51), none, .plain (.mov (.tmp 7))⟩,
      ⟨(some 52), none, .plain (.bin .neq (.tmp 51) (.const (.int .i64 0)))⟩])
   (.cond (.tmp 52)
    (.both (.seq [⟨(some 53), none, .plain (.mov (.tmp 7))⟩,
       ⟨(some 4), none, .plain (.mov (.const (.slice none 0 0)))⟩,
       ⟨(some 5), none, .plain (.mov (.tmp 53))⟩])
    .ret)
    .skip))
  (.both (.both (.seq [⟨(some 54), none, .plain (.mov (.tmp 1))⟩,
      ⟨(some 55), none, .plain (.bin .lss (.tmp 54) (.const (.int .i64 1)))⟩])
   (.cond (.tmp 55)
    (.both (.seq [⟨(some 4), none, .plain (.mov (.const (.slice none 0 0)))⟩,
       ⟨(some 5), none, .plain (.mov (.const (.int .i64 18)))⟩])
    .ret)
    .skip))
  (.both (.both (.seq [⟨(some 56), none, .plain (.mov (.tmp 1))⟩,
      ⟨(some 57), none, .plain (.bin .gtr (.tmp 56) (.const (.int .i64 32768)))⟩])
   (.cond (.tmp 57)
    (.both (.seq [⟨(some 4), none, .plain (.mov (.const (.slice none 0 0)))⟩,
       ⟨(some 5), none, .plain (.mov (.const (.int .i64 4)))⟩])
    .ret)
    .skip))
  (.both (.seq [⟨(some 58), none, .plain (.faddr 0 (.tmp 8))⟩,
     ⟨(some 59), none, .plain (.faddr 0 (.tmp 58))⟩,
     ⟨(some 60), none, .plain (.load none (.tmp 59))⟩,
     ⟨(some 61), none, .plain (.mov (.tmp 1))⟩,
     ⟨(some 62), none, .plain (.bin .mul (.tmp 61) (.const (.int .i64 512)))⟩,
     ⟨(some 63), none, .plain (.bin .add (.tmp 60) (.tmp 62))⟩,
     ⟨(some 14), none, .plain (.mov (.tmp 63))⟩])
  (.both (.both (.draw 0 [⟨0, .pure, 0, ⟨(some 64), none, .plain (.mov (.tmp 14))⟩, [], []⟩,
      ⟨1, .read, 0, ⟨(some 65), none, .plain (.load (some 31) (.tmp 6))⟩, [], []⟩,
      ⟨2, .read, 0, ⟨(some 66), none, .plain (.load (some 4) (.tmp 8))⟩, [], []⟩,
      ⟨3, .pure, 0, ⟨(some 67), none, .plain (.mov (.tmp 0))⟩, [], []⟩,
      ⟨4, .chain, 0, ⟨(some 68), none, .invoke (.tmp 67) [(17, 197), (99, 201), (133, 203)] []⟩, [2, 1], []⟩,
      ⟨5, .chain, 0, ⟨(some 69), none, .call 14 [(.tmp 65), (.tmp 66), (.tmp 68)]⟩, [], []⟩,
      ⟨6, .pure, 0, ⟨(some 70), none, .plain (.bin .gtr (.tmp 64) (.tmp 69))⟩, [], []⟩])
   (.cond (.tmp 70)
    (.both (.seq [⟨(some 4), none, .plain (.mov (.const (.slice none 0 0)))⟩,
       ⟨(some 5), none, .plain (.mov (.const (.int .i64 4)))⟩])
    .ret)
    .skip))
  (.both (.seq [⟨(some 15), none, .plain (.mov (.const (.slice none 0 0)))⟩])
  (.both (.both (.seq [⟨(some 71), none, .plain (.mov (.tmp 11))⟩,
      ⟨(some 72), none, .plain (.bin .eql (.tmp 71) (.const (.int .i64 1)))⟩])
   (.cond (.tmp 72)
    (.seq [⟨(some 74), none, .plain (.mov (.tmp 10))⟩,
      ⟨(some 75), none, .plain (.mov (.tmp 1))⟩,
      ⟨(some 76), none, .call 6 [(.tmp 74), (.tmp 75)]⟩,
      ⟨(some 73), none, .plain (.mov (.tmp 76))⟩,
      ⟨(some 77), none, .plain (.extract (.tmp 73) 0)⟩,
      ⟨(some 78), none, .plain (.extract (.tmp 73) 1)⟩,
      ⟨(some 15), none, .plain (.mov (.tmp 77))⟩,
      ⟨(some 7), none, .plain (.mov (.tmp 78))⟩])
    (.seq [⟨(some 80), none, .plain (.mov (.tmp 10))⟩,
      ⟨(some 81), none, .plain (.mov (.tmp 1))⟩,
      ⟨(some 82), none, .plain (.bin .mul (.tmp 81) (.const (.int .i64 512)))⟩,
      ⟨(some 83), none, .plain (.bin .quo (.tmp 82) (.const (.int .i64 1024)))⟩,
      ⟨(some 84), none, .call 7 [(.tmp 80), (.tmp 83)]⟩,
      ⟨(some 79), none, .plain (.mov (.tmp 84))⟩,
      ⟨(some 85), none, .plain (.extract (.tmp 79) 0)⟩,
      ⟨(some 86), none, .plain (.extract (.tmp 79) 1)⟩,
      ⟨(some 15), none, .plain (.mov (.tmp 85))⟩,
      ⟨(some 7), none, .plain (.mov (.tmp 86))⟩])))
  (.both (.both (.seq [⟨(some 87), none, .plain (.mov (.tmp 7))⟩,
      ⟨(some 88), none, .plain (.bin .neq (.tmp 87) (.const (.int .i64 0)))⟩])
   (.cond (.tmp 88)
    (.both (.seq [⟨(some 89), none, .plain (.mov (.tmp 7))⟩,
       ⟨(some 4), none, .plain (.mov (.const (.slice none 0 0)))⟩,
       ⟨(some 5), none, .plain (.mov (.tmp 89))⟩])
    .ret)
    .skip))
  (.both (.seq [⟨(some 91), none, .plain (.load (some 31) (.tmp 6))⟩,
     ⟨(some 92), none, .plain (.mov (.tmp 0))⟩,
     ⟨(some 93), none, .plain (.load (some 4) (.tmp 8))⟩,
     ⟨(some 94), none, .plain (.mov (.tmp 14))⟩,
     ⟨(some 95), none, .call 15 [(.tmp 91), (.tmp 92), (.tmp 93), (.tmp 94)]⟩,
     ⟨(some 90), none, .plain (.mov (.tmp 95))⟩,
     ⟨(some 96), none, .plain (.extract (.tmp 90) 0)⟩,
     ⟨(some 97), none, .plain (.extract (.tmp 90) 1)⟩,
     ⟨(some 16), none, .plain (.mov (.tmp 96))⟩,
     ⟨(some 7), none, .plain (.mov (.tmp 97))⟩])
  (.both (.both (.seq [⟨(some 98), none, .plain (.mov (.tmp 7))⟩,
      ⟨(some 99), none, .plain (.bin .neq (.tmp 98) (.const (.int .i64 0)))⟩])
   (.cond (.tmp 99)
    (.both (.seq [⟨(some 100), none, .plain (.mov (.tmp 7))⟩,
       ⟨(some 4), none, .plain (.mov (.const (.slice none 0 0)))⟩,
       ⟨(some 5), none, .plain (.mov (.tmp 100))⟩])
    .ret)
    .skip))
  (.both (.seq [⟨(some 101), none, .plain (.mov (.tmp 15))⟩,
     ⟨(some 102), none, .plain (.faddr 0 (.tmp 8))⟩,
     ⟨(some 103), none, .plain (.faddr 0 (.tmp 102))⟩,
     ⟨(some 104), none, .plain (.load none (.tmp 103))⟩,
     ⟨(some 105), none, .call 16 [(.tmp 101), (.tmp 104)]⟩,
     ⟨(some 106), none, .plain (.mov (.tmp 16))⟩,
     ⟨(some 107), none, .plain (.append ⟨2, 32, [(.int .i64 0), (.slice none 0 0)]⟩ false (.tmp 105) (.tmp 106))⟩,
     ⟨(some 4), none, .plain (.mov (.tmp 107))⟩,
     ⟨(some 5), none, .plain (.mov (.const (.int .i64 0)))⟩])
  .ret))))))))))))))))))))⟩
/-- fettle/resize.FatTo -/
def a6 : AFunc := ⟨2, [.tmp 4, .tmp 5],
  (.both (.seq [⟨(some 4), none, .plain (.mov (.const (.slice none 0 0)))⟩,
     ⟨(some 5), none, .plain (.mov (.const (.int .i64 0)))⟩])
  (.both (.seq [⟨(some 18), none, .plain (.mov (.tmp 0))⟩,
     ⟨(some 19), none, .call 17 [(.tmp 18)]⟩,
     ⟨(some 17), none, .plain (.mov (.tmp 19))⟩,
     ⟨(some 20), none, .plain (.extract (.tmp 17) 0)⟩,
     ⟨(some 21), none, .plain (.extract (.tmp 17) 1)⟩,
     ⟨(some 6), none, .plain (.mov (.tmp 20))⟩,
     ⟨(some 7), none, .plain (.mov (.tmp 21))⟩])
  (.both (.both (.seq [⟨(some 22), none, .plain (.mov (.tmp 7))⟩,
      ⟨(some 23), none, .plain (.bin .neq (.tmp 22) (.const (.int .i64 0)))⟩])
   (.cond (.tmp 23)
    (.both (.seq [⟨(some 24), none, .plain (.mov (.tmp 7))⟩,
       ⟨(some 4), none, .plain (.mov (.const (.slice none 0 0)))⟩,
       ⟨(some 5), none, .plain (.mov (.tmp 24))⟩])
    .ret)
    .skip))
  (.both (.seq [⟨(some 25), none, .plain (.mov (.tmp 6))⟩,
     ⟨(some 26), none, .plain (.nilCheck (.tmp 25))⟩,
     ⟨(some 27), none, .plain (.faddr 0 (.tmp 26))⟩,
     ⟨(some 28), none, .plain (.load (some 8) (.tmp 27))⟩,
     ⟨(some 8), none, .plain (.alloc [(.int .i64 0), (.int .i64 0), (.int .i64 0), (.int .i64 0), (.int .i64 0), (.int .i64 0), (.int .i64 0), (.int .i64 0)])⟩,
     ⟨none, none, .plain (.store 8 (.tmp 8) (.tmp 28))⟩])
  (.both (.seq [⟨(some 29), none, .plain (.mov (.tmp 1))⟩,
     ⟨(some 30), none, .plain (.faddr 3 (.tmp 8))⟩,
     ⟨none, none, .plain (.store 1 (.tmp 30) (.tmp 29))⟩])
  (.both (.both (.seq [⟨(some 31), none, .plain (.load (some 8) (.tmp 8))⟩,
      ⟨(some 32), none, .call 18 [(.tmp 31)]⟩,
      ⟨(some 9), none, .plain (.mov (.tmp 32))⟩])
   (.block 0 (.both (.seq [⟨(some 34), none, .plain (.mov (.tmp 1))⟩,
       ⟨(some 35), none, .plain (.load (some 8) (.tmp 8))⟩,
       ⟨(some 36), none, .call 19 [(.tmp 35)]⟩,
       ⟨(some 37), none, .plain (.bin .leq (.tmp 34) (.tmp 36))⟩,
       ⟨(some 38), none, .plain (.mov (.tmp 37))⟩,
       ⟨(some 39), (some (38, false)), .plain (.load (some 8) (.tmp 8))⟩,
       ⟨(some 40), (some (38, false)), .call 20 [(.tmp 39)]⟩,
       ⟨(some 41), (some (38, false)), .plain (.bin .lss (.tmp 40) (.const (.int .i64 1)))⟩,
       ⟨(some 42), none, .plain (.pick (.tmp 38) (.const (.bool true)) (.tmp 41))⟩,
       ⟨(some 33), none, .plain (.mov (.tmp 42))⟩])
    (.cond (.tmp 33)
     (.both (.seq [⟨(some 4), none, .plain (.mov (.const (.slice none 0 0)))⟩,
        ⟨(some 5), none, .plain (.mov (.const (.int .i64 18)))⟩])
     .ret)
     (.both (.draw 0 [⟨0, .read, 0, ⟨(some 44), none, .plain (.load (some 8) (.tmp 8))⟩, [], []⟩,
        ⟨2, .pure, 0, ⟨(some 46), none, .plain (.faddr 4 (.tmp 8))⟩, [], []⟩,
        ⟨3, .read, 0, ⟨(some 47), none, .plain (.load none (.tmp 46))⟩, [], []⟩,
        ⟨4, .pure, 0, ⟨(some 48), none, .plain (.bin .mul (.tmp 47) (.const (.int .i64 128)))⟩, [], []⟩,
        ⟨5, .pure, 0, ⟨(some 49), none, .plain (.bin .sub (.tmp 48) (.const (.int .i64 2)))⟩, [], []⟩,
        ⟨1, .chain, 0, ⟨(some 45), none, .call 20 [(.tmp 44)]⟩, [3], []⟩,
        ⟨6, .pure, 0, ⟨(some 50), none, .plain (.bin .gtr (.tmp 45) (.tmp 49))⟩, [], []⟩,
        ⟨7, .pure, 0, ⟨(some 51), none, .plain (.mov (.tmp 50))⟩, [], []⟩,
        ⟨8, .pure, 0, ⟨(some 52), (some (51, false)), .plain (.mov (.tmp 1))⟩, [], []⟩,
        ⟨9, .pure, 0, ⟨(some 53), (some (51, false)), .plain (.bin .gtr (.tmp 52) (.const (.int .i64 32768)))⟩, [], []⟩,
        ⟨10, .pure, 0, ⟨(some 54), none, .plain (.pick (.tmp 51) (.const (.bool true)) (.tmp 53))⟩, [], []⟩,
        ⟨11, .pure, 0, ⟨(some 43), none, .plain (.mov (.tmp 54))⟩, [], []⟩])
     (.cond (.tmp 43)
      (.both (.seq [⟨(some 4), none, .plain (.mov (.const (.slice none 0 0)))⟩,
         ⟨(some 5), none, .plain (.mov (.const (.int .i64 20)))⟩])
      .ret)
      (.both (.draw 0 [⟨0, .pure, 0, ⟨(some 56), none, .plain (.faddr 5 (.tmp 8))⟩, [], []⟩,
         ⟨1, .read, 0, ⟨(some 57), none, .plain (.load none (.tmp 56))⟩, [], []⟩,
         ⟨2, .read, 0, ⟨(some 58), none, .plain (.load (some 8) (.tmp 8))⟩, [], []⟩,
         ⟨3, .chain, 0, ⟨(some 59), none, .call 20 [(.tmp 58)]⟩, [1], []⟩,
         ⟨4, .pure, 0, ⟨(some 60), none, .plain (.bin .add (.tmp 59) (.const (.int .i64 1)))⟩, [], []⟩,
         ⟨5, .pure, 0, ⟨(some 61), none, .plain (.bin .gtr (.tmp 57) (.tmp 60))⟩, [], []⟩,
         ⟨6, .pure, 0, ⟨(some 55), none, .plain (.mov (.tmp 61))⟩, [], []⟩])
      (.cond (.tmp 55)
       (.both (.seq [⟨(some 4), none, .plain (.mov (.const (.slice none 0 0)))⟩,
          ⟨(some 5), none, .plain (.mov (.const (.int .i64 18)))⟩])
       .ret)
       (.both (.seq [⟨(some 63), none, .plain (.mov (.tmp 9))⟩,
          ⟨(some 64), none, .plain (.bin .neq (.tmp 63) (.const (.int .i64 0)))⟩,
          ⟨(some 62), none, .plain (.mov (.tmp 64))⟩])
       (.cond (.tmp 62)
        (.both (.seq [⟨(some 65), none, .plain (.mov (.tmp 9))⟩,
           ⟨(some 4), none, .plain (.mov (.const (.slice none 0 0)))⟩,
           ⟨(some 5), none, .plain (.mov (.tmp 65))⟩])
        .ret)
        .skip))))))))))
  (.both (.both (.seq [⟨(some 66), none, .plain (.load (some 8) (.tmp 8))⟩,
      ⟨(some 67), none, .call 20 [(.tmp 66)]⟩,
      ⟨(some 68), none, .plain (.bin .add (.tmp 67) (.const (.int .i64 2)))⟩,
      ⟨(some 10), none, .plain (.mov (.tmp 68))⟩])
   (.block 1 (.loop (.both (.both (.seq [⟨(some 69), none, .plain (.mov (.tmp 10))⟩,
         ⟨(some 70), none, .plain (.mov (.tmp 6))⟩,
         ⟨(some 71), none, .plain (.nilCheck (.tmp 70))⟩,
         ⟨(some 72), none, .plain (.faddr 8 (.tmp 71))⟩,
         ⟨(some 73), none, .plain (.load none (.tmp 72))⟩,
         ⟨(some 74), none, .plain (.len .sl (.tmp 73))⟩,
         ⟨(some 75), none, .plain (.bin .lss (.tmp 69) (.tmp 74))⟩])
      (.cond (.tmp 75)
       .skip
       (.exit 1)))
     (.both (.block 2 (.both (.seq [⟨(some 78), none, .plain (.mov (.tmp 6))⟩,
          ⟨(some 79), none, .plain (.nilCheck (.tmp 78))⟩,
          ⟨(some 80), none, .plain (.faddr 8 (.tmp 79))⟩,
          ⟨(some 81), none, .plain (.load none (.tmp 80))⟩,
          ⟨(some 82), none, .plain (.mov (.tmp 10))⟩,
          ⟨(some 83), none, .plain (.iaddr none 1 (.tmp 81) (.tmp 82))⟩,
          ⟨(some 84), none, .plain (.load none (.tmp 83))⟩,
          ⟨(some 85), none, .plain (.bin .neq (.tmp 84) (.const (.int .u32 0)))⟩])
       (.cond (.tmp 85)
        (.both (.seq [⟨(some 4), none, .plain (.mov (.const (.slice none 0 0)))⟩,
           ⟨(some 5), none, .plain (.mov (.const (.int .i64 18)))⟩])
        .ret)
        .skip)))
     (.seq [⟨(some 76), none, .plain (.mov (.tmp 10))⟩,
       ⟨(some 77), none, .plain (.bin .add (.tmp 76) (.const (.int .i64 1)))⟩,
       ⟨(some 10), none, .plain (.mov (.tmp 77))⟩]))))))
  (.both (.seq [⟨(some 87), none, .plain (.mov (.tmp 0))⟩,
     ⟨(some 88), none, .invoke (.tmp 87) [(81, 63), (99, 200), (133, 202)] [(.const (.int .i64 0)), (.const (.int .i64 512))]⟩,
     ⟨(some 86), none, .plain (.mov (.tmp 88))⟩,
     ⟨(some 89), none, .plain (.extract (.tmp 86) 0)⟩,
     ⟨(some 90), none, .plain (.extract (.tmp 86) 1)⟩,
     ⟨(some 11), none, .plain (.mov (.tmp 89))⟩,
     ⟨(some 7), none, .plain (.mov (.tmp 90))⟩])
  (.both (.both (.seq [⟨(some 91), none, .plain (.mov (.tmp 7))⟩,
      ⟨(some 92), none, .plain (.bin .neq (.tmp 91) (.const (.int .i64 0)))⟩])
   (.cond (.tmp 92)
    (.both (.seq [⟨(some 93), none, .plain (.mov (.tmp 7))⟩,
       ⟨(some 4), none, .plain (.mov (.const (.slice none 0 0)))⟩,
       ⟨(some 5), none, .plain (.mov (.tmp 93))⟩])
    .ret)
    .skip))
  (.both (.both (.seq [⟨(some 94), none, .plain (.load (some 8) (.tmp 8))⟩,
      ⟨(some 95), none, .plain (.mov (.tmp 11))⟩,
      ⟨(some 96), none, .call 21 [(.tmp 94), (.tmp 95)]⟩,
      ⟨(some 12), none, .plain (.mov (.tmp 96))⟩])
   (.both (.seq [⟨(some 97), none, .plain (.mov (.tmp 12))⟩,
      ⟨(some 98), none, .plain (.bin .neq (.tmp 97) (.const (.int .i64 0)))⟩])
   (.cond (.tmp 98)
    (.both (.seq [⟨(some 99), none, .plain (.mov (.tmp 12))⟩,
       ⟨(some 4), none, .plain (.mov (.const (.slice none 0 0)))⟩,
       ⟨(some 5), none, .plain (.mov (.tmp 99))⟩])
    .ret)
    .skip)))
  (.both (.seq [⟨(some 100), none, .plain (.mov (.tmp 11))⟩,
     ⟨(some 101), none, .plain (.build (.str [(.int .i64 0), (.slice none 0 0)] [(0, 1), (1, 1)]) [(0, (.const (.int .i64 0))), (1, (.tmp 100))])⟩,
     ⟨(some 102), none, .plain (.buildSlice ⟨2, 32, [(.int .i64 0), (.slice none 0 0)]⟩ 1 [(0, (.tmp 101))])⟩,
     ⟨(some 13), none, .plain (.mov (.tmp 102))⟩])
  (.both (.both (.seq [⟨(some 103), none, .plain (.faddr 7 (.tmp 8))⟩,
      ⟨(some 104), none, .plain (.load none (.tmp 103))⟩,
      ⟨(some 105), none, .plain (.bin .neq (.tmp 104) (.const (.int .i64 0)))⟩])
   (.cond (.tmp 105)
    (.seq [⟨(some 106), none, .plain (.mov (.tmp 13))⟩,
      ⟨(some 107), none, .plain (.faddr 7 (.tmp 8))⟩,
      ⟨(some 108), none, .plain (.load none (.tmp 107))⟩,
      ⟨(some 109), none, .plain (.bin .mul (.tmp 108) (.const (.int .i64 512)))⟩,
      ⟨(some 110), none, .plain (.mov (.tmp 11))⟩,
      ⟨(some 111), none, .plain (.build (.str [(.int .i64 0), (.slice none 0 0)] [(0, 1), (1, 1)]) [(0, (.tmp 109)), (1, (.tmp 110))])⟩,
      ⟨(some 112), none, .plain (.buildSlice ⟨2, 32, [(.int .i64 0), (.slice none 0 0)]⟩ 1 [(0, (.tmp 111))])⟩,
      ⟨(some 113), none, .plain (.append ⟨2, 32, [(.int .i64 0), (.slice none 0 0)]⟩ false (.tmp 106) (.tmp 112))⟩,
      ⟨(some 13), none, .plain (.mov (.tmp 113))⟩])
    .skip))
  (.both (.seq [⟨(some 115), none, .plain (.mov (.tmp 0))⟩,
     ⟨(some 116), none, .plain (.faddr 6 (.tmp 8))⟩,
     ⟨(some 117), none, .plain (.load none (.tmp 116))⟩,
     ⟨(some 118), none, .plain (.bin .mul (.tmp 117) (.const (.int .i64 512)))⟩,
     ⟨(some 119), none, .invoke (.tmp 115) [(81, 63), (99, 200), (133, 202)] [(.tmp 118), (.const (.int .i64 512))]⟩,
     ⟨(some 114), none, .plain (.mov (.tmp 119))⟩,
     ⟨(some 120), none, .plain (.extract (.tmp 114) 0)⟩,
     ⟨(some 121), none, .plain (.extract (.tmp 114) 1)⟩,
     ⟨(some 14), none, .plain (.mov (.tmp 120))⟩,
     ⟨(some 7), none, .plain (.mov (.tmp 121))⟩])
  (.both (.both (.seq [⟨(some 122), none, .plain (.mov (.tmp 7))⟩,
      ⟨(some 123), none, .plain (.bin .neq (.tmp 122) (.const (.int .i64 0)))⟩])
   (.cond (.tmp 123)
    (.both (.seq [⟨(some 124), none, .plain (.mov (.tmp 7))⟩,
       ⟨(some 4), none, .plain (.mov (.const (.slice none 0 0)))⟩,
       ⟨(some 5), none, .plain (.mov (.tmp 124))⟩])
    .ret)
    .skip))
  (.both (.seq [⟨(some 125), none, .plain (.mov (.tmp 6))⟩,
     ⟨(some 126), none, .plain (.load (some 8) (.tmp 8))⟩,
     ⟨(some 127), none, .call 20 [(.tmp 126)]⟩,
     ⟨(some 128), none, .call 22 [(.tmp 125), (.tmp 127)]⟩,
     ⟨(some 15), none, .plain (.alloc [(.int .i64 0), (.int .i64 0)])⟩,
     ⟨none, none, .plain (.store 2 (.tmp 15) (.tmp 128))⟩])
  (.both (.seq [⟨(some 129), none, .plain (.mov (.tmp 14))⟩,
     ⟨(some 130), none, .plain (.faddr 0 (.tmp 15))⟩,
     ⟨(some 131), none, .plain (.load none (.tmp 130))⟩,
     ⟨(some 132), none, .plain (.conv (.int .u32) (.tmp 131))⟩,
     ⟨(some 133), none, .call 23 [(.tmp 129), (.const (.int .i64 488)), (.tmp 132)]⟩])
  (.both (.seq [⟨(some 134), none, .plain (.mov (.tmp 14))⟩,
     ⟨(some 135), none, .plain (.faddr 1 (.tmp 15))⟩,
     ⟨(some 136), none, .plain (.load none (.tmp 135))⟩,
     ⟨(some 137), none, .plain (.conv (.int .u32) (.tmp 136))⟩,
     ⟨(some 138), none, .call 23 [(.tmp 134), (.const (.int .i64 492)), (.tmp 137)]⟩])
  (.both (.seq [⟨(some 139), none, .plain (.mov (.tmp 13))⟩,
     ⟨(some 140), none, .plain (.faddr 6 (.tmp 8))⟩,
     ⟨(some 141), none, .plain (.load none (.tmp 140))⟩,
     ⟨(some 142), none, .plain (.bin .mul (.tmp 141) (.const (.int .i64 512)))⟩,
     ⟨(some 143), none, .plain (.mov (.tmp 14))⟩,
     ⟨(some 144), none, .plain (.build (.str [(.int .i64 0), (.slice none 0 0)] [(0, 1), (1, 1)]) [(0, (.tmp 142)), (1, (.tmp 143))])⟩,
     ⟨(some 145), none, .plain (.buildSlice ⟨2, 32, [(.int .i64 0), (.slice none 0 0)]⟩ 1 [(0, (.tmp 144))])⟩,
     ⟨(some 146), none, .plain (.append ⟨2, 32, [(.int .i64 0), (.slice none 0 0)]⟩ false (.tmp 139) (.tmp 145))⟩,
     ⟨(some 13), none, .plain (.mov (.tmp 146))⟩])
  (.both (.both (.draw 0 [⟨0, .read, 0, ⟨(some 147), none, .plain (.load (some 8) (.tmp 8))⟩, [], []⟩,
      ⟨3, .pure, 0, ⟨(some 150), none, .plain (.mov (.tmp 6))⟩, [], []⟩,
      ⟨4, .pure, 0, ⟨(some 151), none, .plain (.nilCheck (.tmp 150))⟩, [], []⟩,
      ⟨5, .pure, 0, ⟨(some 152), none, .plain (.faddr 8 (.tmp 151))⟩, [], []⟩,
      ⟨6, .read, 0, ⟨(some 153), none, .plain (.load none (.tmp 152))⟩, [], []⟩,
      ⟨7, .pure, 0, ⟨(some 154), none, .plain (.len .sl (.tmp 153))⟩, [], []⟩,
      ⟨1, .chain, 0, ⟨(some 148), none, .call 20 [(.tmp 147)]⟩, [6], []⟩,
      ⟨2, .pure, 0, ⟨(some 149), none, .plain (.bin .add (.tmp 148) (.const (.int .i64 2)))⟩, [], []⟩,
      ⟨8, .pure, 0, ⟨(some 155), none, .plain (.bin .leq (.tmp 149) (.tmp 154))⟩, [], []⟩])
   (.cond (.tmp 155)
    (.both (.seq [⟨(some 156), none, .plain (.mov (.tmp 13))⟩,
       ⟨(some 4), none, .plain (.mov (.tmp 156))⟩,
       ⟨(some 5), none, .plain (.mov (.const (.int .i64 0)))⟩])
    .ret)
    .skip))
  (.both (.draw 0 [⟨0, .pure, 0, ⟨(some 158), none, .plain (.mov (.tmp 0))⟩, [], []⟩,
     ⟨1, .read, 0, ⟨(some 159), none, .plain (.load (some 8) (.tmp 8))⟩, [], []⟩,
     ⟨2, .pure, 0, ⟨(some 160), none, .plain (.mov (.tmp 6))⟩, [], []⟩,
     ⟨3, .pure, 0, ⟨(some 161), none, .plain (.nilCheck (.tmp 160))⟩, [], []⟩,
     ⟨4, .pure, 0, ⟨(some 162), none, .plain (.faddr 8 (.tmp 161))⟩, [], []⟩,
     ⟨5, .read, 0, ⟨(some 163), none, .plain (.load none (.tmp 162))⟩, [], []⟩,
     ⟨6, .pure, 0, ⟨(some 164), none, .plain (.len .sl (.tmp 163))⟩, [], []⟩,
     ⟨7, .read, 0, ⟨(some 165), none, .plain (.load (some 8) (.tmp 8))⟩, [], []⟩,
     ⟨8, .chain, 0, ⟨(some 166), none, .call 20 [(.tmp 165)]⟩, [5, 1], []⟩,
     ⟨9, .pure, 0, ⟨(some 167), none, .plain (.bin .add (.tmp 166) (.const (.int .i64 2)))⟩, [], []⟩,
     ⟨10, .chain, 0, ⟨(some 168), none, .call 24 [(.tmp 158), (.tmp 159), (.tmp 164), (.tmp 167)]⟩, [], []⟩,
     ⟨11, .pure, 0, ⟨(some 157), none, .plain (.mov (.tmp 168))⟩, [], []⟩,
     ⟨12, .pure, 0, ⟨(some 169), none, .plain (.extract (.tmp 157) 0)⟩, [], []⟩,
     ⟨13, .pure, 0, ⟨(some 170), none, .plain (.extract (.tmp 157) 1)⟩, [], []⟩,
     ⟨14, .pure, 0, ⟨(some 16), none, .plain (.mov (.tmp 169))⟩, [], []⟩,
     ⟨15, .pure, 0, ⟨(some 7), none, .plain (.mov (.tmp 170))⟩, [], []⟩])
  (.both (.both (.seq [⟨(some 171), none, .plain (.mov (.tmp 7))⟩,
      ⟨(some 172), none, .plain (.bin .neq (.tmp 171) (.const (.int .i64 0)))⟩])
   (.cond (.tmp 172)
    (.both (.seq [⟨(some 173), none, .plain (.mov (.tmp 7))⟩,
       ⟨(some 4), none, .plain (.mov (.const (.slice none 0 0)))⟩,
       ⟨(some 5), none, .plain (.mov (.tmp 173))⟩])
    .ret)
    .skip))
  (.both (.seq [⟨(some 174), none, .plain (.mov (.tmp 13))⟩,
     ⟨(some 175), none, .plain (.mov (.tmp 16))⟩,
     ⟨(some 176), none, .plain (.append ⟨2, 32, [(.int .i64 0), (.slice none 0 0)]⟩ false (.tmp 174) (.tmp 175))⟩,
     ⟨(some 4), none, .plain (.mov (.tmp 176))⟩,
     ⟨(some 5), none, .plain (.mov (.const (.int .i64 0)))⟩])
  .ret))))))))))))))))))))))⟩
/-- fettle/resize.ExtTo -/
def a7 : AFunc := ⟨2, [.tmp 4, .tmp 5],
  (.both (.seq [⟨(some 4), none, .plain (.mov (.const (.slice none 0 0)))⟩,
     ⟨(some 5), none, .plain (.mov (.const (.int .i64 0)))⟩])
  (.both (.seq [⟨(some 14), none, .plain (.mov (.tmp 0))⟩,
     ⟨(some 15), none, .call 25 [(.tmp 14)]⟩,
     ⟨(some 13), none, .plain (.mov (.tmp 15))⟩,
     ⟨(some 16), none, .plain (.extract (.tmp 13) 0)⟩,
     ⟨(some 17), none, .plain (.extract (.tmp 13) 1)⟩,
     ⟨(some 6), none, .plain (.mov (.tmp 16))⟩,
     ⟨(some 7), none, .plain (.mov (.tmp 17))⟩])
  (.both (.both (.seq [⟨(some 18), none, .plain (.mov (.tmp 7))⟩,
      ⟨(some 19), none, .plain (.bin .neq (.tmp 18) (.const (.int .i64 0)))⟩])
   (.cond (.tmp 19)
    (.both (.seq [⟨(some 20), none, .plain (.mov (.tmp 7))⟩,
       ⟨(some 4), none, .plain (.mov (.const (.slice none 0 0)))⟩,
       ⟨(some 5), none, .plain (.mov (.tmp 20))⟩])
    .ret)
    .skip))
  (.both (.seq [⟨(some 21), none, .plain (.mov (.tmp 6))⟩,
     ⟨(some 22), none, .plain (.mov (.tmp 6))⟩,
     ⟨(some 23), none, .plain (.nilCheck (.tmp 22))⟩,
     ⟨(some 24), none, .plain (.faddr 0 (.tmp 23))⟩,
     ⟨(some 25), none, .plain (.load (some 8) (.tmp 24))⟩,
     ⟨(some 26), none, .plain (.build (.str [(.pointer none), (.int .i64 0), (.int .i64 0), (.int .i64 0), (.int .i64 0), (.int .i64 0), (.int .i64 0), (.int .i64 0), (.bool false), (.slice none 0 0), (.slice none 0 0)] [(0, 1), (1, 8), (9, 1), (10, 1)]) [(0, (.tmp 21)), (1, (.tmp 25))])⟩,
     ⟨(some 27), none, .plain (.box (.tmp 26))⟩,
     ⟨(some 8), none, .plain (.mov (.tmp 27))⟩])
  (.both (.seq [⟨(some 28), none, .plain (.mov (.tmp 8))⟩,
     ⟨(some 29), none, .plain (.mov (.tmp 1))⟩,
     ⟨(some 30), none, .plain (.nilCheck (.tmp 28))⟩,
     ⟨(some 31), none, .plain (.faddr 1 (.tmp 30))⟩,
     ⟨(some 32), none, .plain (.faddr 1 (.tmp 31))⟩,
     ⟨none, none, .plain (.store 1 (.tmp 32) (.tmp 29))⟩])
  (.both (.block 0 (.both (.seq [⟨(some 34), none, .plain (.mov (.tmp 1))⟩,
       ⟨(some 35), none, .plain (.bin .lss (.tmp 34) (.const (.int .i64 8)))⟩,
       ⟨(some 33), none, .plain (.mov (.tmp 35))⟩])
    (.cond (.tmp 33)
     (.both (.seq [⟨(some 4), none, .plain (.mov (.const (.slice none 0 0)))⟩,
        ⟨(some 5), none, .plain (.mov (.const (.int .i64 18)))⟩])
     .ret)
     (.both (.seq [⟨(some 37), none, .plain (.mov (.tmp 1))⟩,
        ⟨(some 38), none, .plain (.bin .gtr (.tmp 37) (.const (.int .i64 16384)))⟩,
        ⟨(some 39), none, .plain (.mov (.tmp 38))⟩,
        ⟨(some 40), (some (39, false)), .plain (.mov (.tmp 8))⟩,
        ⟨(some 41), (some (39, false)), .plain (.nilCheck (.tmp 40))⟩,
        ⟨(some 42), (some (39, false)), .plain (.faddr 1 (.tmp 41))⟩,
        ⟨(some 43), (some (39, false)), .plain (.load (some 8) (.tmp 42))⟩,
        ⟨(some 44), (some (39, false)), .call 26 [(.tmp 43)]⟩,
        ⟨(some 45), (some (39, false)), .plain (.bin .gtr (.tmp 44) (.const (.int .i64 32)))⟩,
        ⟨(some 46), none, .plain (.pick (.tmp 39) (.const (.bool true)) (.tmp 45))⟩,
        ⟨(some 36), none, .plain (.mov (.tmp 46))⟩])
     (.cond (.tmp 36)
      (.both (.seq [⟨(some 4), none, .plain (.mov (.const (.slice none 0 0)))⟩,
         ⟨(some 5), none, .plain (.mov (.const (.int .i64 20)))⟩])
      .ret)
      .skip)))))
  (.both (.draw 0 [⟨0, .pure, 0, ⟨(some 47), none, .plain (.mov (.tmp 8))⟩, [], []⟩,
     ⟨1, .pure, 0, ⟨(some 48), none, .plain (.mov (.tmp 8))⟩, [], []⟩,
     ⟨2, .pure, 0, ⟨(some 49), none, .plain (.nilCheck (.tmp 48))⟩, [], []⟩,
     ⟨3, .pure, 0, ⟨(some 50), none, .plain (.faddr 1 (.tmp 49))⟩, [], []⟩,
     ⟨4, .read, 0, ⟨(some 51), none, .plain (.load (some 8) (.tmp 50))⟩, [], []⟩,
     ⟨6, .pure, 0, ⟨(some 53), none, .plain (.mov (.tmp 8))⟩, [], []⟩,
     ⟨7, .pure, 0, ⟨(some 54), none, .plain (.nilCheck (.tmp 53))⟩, [], []⟩,
     ⟨8, .pure, 0, ⟨(some 55), none, .plain (.faddr 1 (.tmp 54))⟩, [], []⟩,
     ⟨9, .pure, 0, ⟨(some 56), none, .plain (.faddr 5 (.tmp 55))⟩, [], []⟩,
     ⟨10, .read, 0, ⟨(some 57), none, .plain (.load none (.tmp 56))⟩, [], []⟩,
     ⟨5, .chain, 0, ⟨(some 52), none, .call 26 [(.tmp 51)]⟩, [10], []⟩,
     ⟨11, .pure, 0, ⟨(some 58), none, .plain (.bin .mul (.tmp 52) (.tmp 57))⟩, [], []⟩,
     ⟨12, .pure, 0, ⟨(some 59), none, .plain (.nilCheck (.tmp 47))⟩, [], []⟩,
     ⟨13, .pure, 0, ⟨(some 60), none, .plain (.faddr 1 (.tmp 59))⟩, [], []⟩,
     ⟨14, .pure, 0, ⟨(some 61), none, .plain (.faddr 0 (.tmp 60))⟩, [], []⟩,
     ⟨15, .chain, 0, ⟨none, none, .plain (.store 1 (.tmp 61) (.tmp 58))⟩, [], []⟩])
  (.both (.both (.draw 0 [⟨0, .pure, 0, ⟨(some 63), none, .plain (.mov (.tmp 8))⟩, [], []⟩,
      ⟨1, .pure, 0, ⟨(some 64), none, .plain (.nilCheck (.tmp 63))⟩, [], []⟩,
      ⟨2, .pure, 0, ⟨(some 65), none, .plain (.faddr 1 (.tmp 64))⟩, [], []⟩,
      ⟨3, .read, 0, ⟨(some 66), none, .plain (.load (some 8) (.tmp 65))⟩, [], []⟩,
      ⟨4, .pure, 0, ⟨(some 67), none, .plain (.mov (.tmp 8))⟩, [], []⟩,
      ⟨5, .pure, 0, ⟨(some 68), none, .plain (.nilCheck (.tmp 67))⟩, [], []⟩,
      ⟨6, .pure, 0, ⟨(some 69), none, .plain (.faddr 1 (.tmp 68))⟩, [], []⟩,
      ⟨7, .read, 0, ⟨(some 70), none, .plain (.load (some 8) (.tmp 69))⟩, [], []⟩,
      ⟨8, .chain, 0, ⟨(some 71), none, .call 26 [(.tmp 70)]⟩, [3], []⟩,
      ⟨9, .pure, 0, ⟨(some 72), none, .plain (.bin .sub (.tmp 71) (.const (.int .i64 1)))⟩, [], []⟩,
      ⟨10, .chain, 0, ⟨(some 73), none, .call 27 [(.tmp 66), (.tmp 72)]⟩, [], []⟩,
      ⟨11, .pure, 0, ⟨(some 62), none, .plain (.mov (.tmp 73))⟩, [], []⟩,
      ⟨12, .pure, 0, ⟨(some 74), none, .plain (.extract (.tmp 62) 0)⟩, [], []⟩,
      ⟨13, .pure, 0, ⟨(some 75), none, .plain (.extract (.tmp 62) 1)⟩, [], []⟩,
      ⟨14, .pure, 0, ⟨(some 9), none, .plain (.mov (.tmp 74))⟩, [], []⟩,
      ⟨15, .pure, 0, ⟨(some 10), none, .plain (.mov (.tmp 75))⟩, [], []⟩])
   (.both (.seq [⟨(some 76), none, .plain (.mov (.tmp 10))⟩,
      ⟨(some 77), none, .plain (.mov (.tmp 9))⟩,
      ⟨(some 78), none, .plain (.bin .sub (.tmp 76) (.tmp 77))⟩,
      ⟨(some 79), none, .plain (.mov (.tmp 8))⟩,
      ⟨(some 80), none, .plain (.nilCheck (.tmp 79))⟩,
      ⟨(some 81), none, .plain (.faddr 1 (.tmp 80))⟩,
      ⟨(some 82), none, .plain (.load (some 8) (.tmp 81))⟩,
      ⟨(some 83), none, .call 28 [(.tmp 82)]⟩,
      ⟨(some 84), none, .plain (.bin .add (.tmp 83) (.const (.int .i64 5)))⟩,
      ⟨(some 85), none, .plain (.bin .lss (.tmp 78) (.tmp 84))⟩])
   (.cond (.tmp 85)
    (.both (.seq [⟨(some 4), none, .plain (.mov (.const (.slice none 0 0)))⟩,
       ⟨(some 5), none, .plain (.mov (.const (.int .i64 18)))⟩])
    .ret)
    .skip)))
  (.both (.both (.seq [⟨(some 86), none, .plain (.mov (.tmp 8))⟩,
      ⟨(some 87), none, .call 29 [(.tmp 86)]⟩,
      ⟨(some 11), none, .plain (.mov (.tmp 87))⟩])
   (.both (.seq [⟨(some 88), none, .plain (.mov (.tmp 11))⟩,
      ⟨(some 89), none, .plain (.bin .neq (.tmp 88) (.const (.int .i64 0)))⟩])
   (.cond (.tmp 89)
    (.both (.seq [⟨(some 90), none, .plain (.mov (.tmp 11))⟩,
       ⟨(some 4), none, .plain (.mov (.const (.slice none 0 0)))⟩,
       ⟨(some 5), none, .plain (.mov (.tmp 90))⟩])
    .ret)
    .skip)))
  (.both (.both (.seq [⟨(some 91), none, .plain (.mov (.tmp 8))⟩,
      ⟨(some 92), none, .plain (.nilCheck (.tmp 91))⟩,
      ⟨(some 93), none, .plain (.faddr 1 (.tmp 92))⟩,
      ⟨(some 94), none, .plain (.load (some 8) (.tmp 93))⟩,
      ⟨(some 95), none, .call 26 [(.tmp 94)]⟩,
      ⟨(some 96), none, .plain (.mov (.const (.int .i64 0)))⟩])
   (.block 1 (.loop (.both (.seq [⟨(some 97), none, .plain (.bin .lss (.tmp 96) (.tmp 95))⟩])
     (.both (.cond (.tmp 97)
       .skip
       (.exit 1))
     (.both (.block 2 (.both (.seq [⟨(some 98), none, .plain (.mov (.tmp 96))⟩,
          ⟨(some 12), none, .plain (.mov (.tmp 98))⟩])
       (.both (.both (.seq [⟨(some 99), none, .plain (.mov (.tmp 12))⟩,
           ⟨(some 100), none, .plain (.mov (.tmp 6))⟩,
           ⟨(some 101), none, .plain (.nilCheck (.tmp 100))⟩,
           ⟨(some 102), none, .plain (.faddr 0 (.tmp 101))⟩,
           ⟨(some 103), none, .plain (.load (some 8) (.tmp 102))⟩,
           ⟨(some 104), none, .call 26 [(.tmp 103)]⟩,
           ⟨(some 105), none, .plain (.bin .lss (.tmp 99) (.tmp 104))⟩])
        (.cond (.tmp 105)
         (.seq [⟨(some 106), none, .plain (.mov (.tmp 8))⟩,
           ⟨(some 107), none, .plain (.mov (.tmp 12))⟩,
           ⟨(some 108), none, .call 30 [(.tmp 106), (.tmp 107)]⟩,
           ⟨(some 7), none, .plain (.mov (.tmp 108))⟩])
         (.seq [⟨(some 109), none, .plain (.mov (.tmp 8))⟩,
           ⟨(some 110), none, .plain (.mov (.tmp 12))⟩,
           ⟨(some 111), none, .call 31 [(.tmp 109), (.tmp 110)]⟩,
           ⟨(some 7), none, .plain (.mov (.tmp 111))⟩])))
       (.both (.seq [⟨(some 112), none, .plain (.mov (.tmp 7))⟩,
          ⟨(some 113), none, .plain (.bin .neq (.tmp 112) (.const (.int .i64 0)))⟩])
       (.cond (.tmp 113)
        (.both (.seq [⟨(some 114), none, .plain (.mov (.tmp 7))⟩,
           ⟨(some 4), none, .plain (.mov (.const (.slice none 0 0)))⟩,
           ⟨(some 5), none, .plain (.mov (.tmp 114))⟩])
        .ret)
        .skip)))))
     (.seq [⟨(some 115), none, .plain (.bin .add (.tmp 96) (.const (.int .i64 1)))⟩,
       ⟨(some 96), none, .plain (.mov (.tmp 115))⟩])))))))
  (.both (.seq [⟨(some 116), none, .plain (.mov (.tmp 8))⟩,
     ⟨(some 117), none, .plain (.mov (.tmp 0))⟩,
     ⟨(some 118), none, .call 32 [(.tmp 116), (.tmp 117)]⟩,
     ⟨(some 119), none, .plain (.extract (.tmp 118) 0)⟩,
     ⟨(some 120), none, .plain (.extract (.tmp 118) 1)⟩,
     ⟨(some 4), none, .plain (.mov (.tmp 119))⟩,
     ⟨(some 5), none, .plain (.mov (.tmp 120))⟩])
  .ret)))))))))))⟩
/-- fettle/fettlelaw20.grown -/
def a8 : AFunc := ⟨0, [.tmp 0],
  (.both (.seq [⟨(some 0), none, .plain (.mov (.const (.bool false)))⟩])
  (.both (.seq [⟨(some 9), none, .call 33 [(.const (.int .i64 64)), (.const (.int .i64 1))]⟩,
     ⟨(some 8), none, .plain (.mov (.tmp 9))⟩,
     ⟨(some 10), none, .plain (.extract (.tmp 8) 0)⟩,
     ⟨(some 11), none, .plain (.extract (.tmp 8) 1)⟩,
     ⟨(some 1), none, .plain (.mov (.tmp 10))⟩,
     ⟨(some 2), none, .plain (.mov (.tmp 11))⟩])
  (.both (.seq [⟨(some 13), none, .plain (.mov (.tmp 1))⟩,
     ⟨(some 14), none, .plain (.iface 99 (.tmp 13))⟩,
     ⟨(some 15), none, .call 6 [(.tmp 14), (.const (.int .i64 48))]⟩,
     ⟨(some 12), none, .plain (.mov (.tmp 15))⟩,
     ⟨(some 16), none, .plain (.extract (.tmp 12) 0)⟩,
     ⟨(some 17), none, .plain (.extract (.tmp 12) 1)⟩,
     ⟨(some 3), none, .plain (.mov (.tmp 16))⟩,
     ⟨(some 4), none, .plain (.mov (.tmp 17))⟩])
  (.both (.both (.seq [⟨(some 18), none, .plain (.mov (.tmp 4))⟩,
      ⟨(some 19), none, .plain (.bin .neq (.tmp 18) (.const (.int .i64 0)))⟩,
      ⟨(some 20), none, .plain (.mov (.tmp 19))⟩,
      ⟨(some 21), (some (20, false)), .plain (.mov (.tmp 3))⟩,
      ⟨(some 22), (some (20, false)), .plain (.len .sl (.tmp 21))⟩,
      ⟨(some 23), (some (20, false)), .plain (.bin .neq (.tmp 22) (.const (.int .i64 3)))⟩,
      ⟨(some 24), none, .plain (.pick (.tmp 20) (.const (.bool true)) (.tmp 23))⟩])
   (.cond (.tmp 24)
    (.both (.seq [⟨(some 0), none, .plain (.mov (.const (.bool false)))⟩])
    .ret)
    .skip))
  (.both (.seq [⟨(some 26), none, .plain (.mov (.tmp 1))⟩,
     ⟨(some 27), none, .plain (.mov (.tmp 3))⟩,
     ⟨(some 28), none, .call 34 [(.tmp 26), (.tmp 27)]⟩,
     ⟨(some 25), none, .plain (.mov (.tmp 28))⟩,
     ⟨(some 29), none, .plain (.extract (.tmp 25) 0)⟩,
     ⟨(some 30), none, .plain (.extract (.tmp 25) 1)⟩,
     ⟨(some 5), none, .plain (.mov (.tmp 29))⟩,
     ⟨(some 6), none, .plain (.mov (.tmp 30))⟩])
  (.both (.seq [⟨(some 31), none, .plain (.mov (.tmp 5))⟩,
     ⟨(some 32), none, .call 35 [(.tmp 31)]⟩,
     ⟨(some 7), none, .plain (.alloc [(.int .i64 0), (.int .i64 0), (.int .i64 0), (.int .i64 0), (.int .i64 0), (.int .i64 0), (.int .i64 0), (.int .i64 0), (.slice none 0 0), (.int .i64 0), (.int .i64 0), (.int .i64 0)])⟩,
     ⟨none, none, .plain (.store 12 (.tmp 7) (.tmp 32))⟩])
  (.both (.seq [⟨(some 33), none, .plain (.mov (.tmp 6))⟩,
     ⟨(some 34), none, .plain (.mov (.tmp 33))⟩,
     ⟨(some 35), (some (34, true)), .plain (.faddr 11 (.tmp 7))⟩,
     ⟨(some 36), (some (34, true)), .plain (.load none (.tmp 35))⟩,
     ⟨(some 37), (some (34, true)), .plain (.bin .eql (.tmp 36) (.const (.int .i64 0)))⟩,
     ⟨(some 38), none, .plain (.pick (.tmp 34) (.tmp 37) (.const (.bool false)))⟩,
     ⟨(some 39), none, .plain (.mov (.tmp 38))⟩,
     ⟨(some 40), (some (39, true)), .plain (.faddr 0 (.tmp 7))⟩,
     ⟨(some 41), (some (39, true)), .plain (.faddr 3 (.tmp 40))⟩,
     ⟨(some 42), (some (39, true)), .plain (.load none (.tmp 41))⟩,
     ⟨(some 43), (some (39, true)), .plain (.bin .eql (.tmp 42) (.const (.int .i64 48)))⟩,
     ⟨(some 44), none, .plain (.pick (.tmp 39) (.tmp 43) (.const (.bool false)))⟩,
     ⟨(some 45), none, .plain (.mov (.tmp 44))⟩,
     ⟨(some 46), (some (45, true)), .plain (.faddr 9 (.tmp 7))⟩,
     ⟨(some 47), (some (45, true)), .plain (.load none (.tmp 46))⟩,
     ⟨(some 48), (some (45, true)), .plain (.bin .eql (.tmp 47) (.const (.int .i64 41)))⟩,
     ⟨(some 49), none, .plain (.pick (.tmp 45) (.tmp 48) (.const (.bool false)))⟩,
     ⟨(some 0), none, .plain (.mov (.tmp 49))⟩])
  .ret)))))))⟩
/-- fettle/fatdir.Tree -/
def a9 : AFunc := ⟨1, [.tmp 2, .tmp 3, .tmp 4],
  (.both (.seq [⟨(some 2), none, .plain (.mov (.const (.slice none 0 0)))⟩,
     ⟨(some 3), none, .plain (.mov (.const (.slice none 0 0)))⟩,
     ⟨(some 4), none, .plain (.mov (.const (.int .i64 0)))⟩])
  (.both (.seq [⟨(some 10), none, .plain (.mov (.tmp 0))⟩,
     ⟨(some 11), none, .call 17 [(.tmp 10)]⟩,
     ⟨(some 9), none, .plain (.mov (.tmp 11))⟩,
     ⟨(some 12), none, .plain (.extract (.tmp 9) 0)⟩,
     ⟨(some 13), none, .plain (.extract (.tmp 9) 1)⟩,
     ⟨(some 5), none, .plain (.mov (.tmp 12))⟩,
     ⟨(some 6), none, .plain (.mov (.tmp 13))⟩])
  (.both (.both (.seq [⟨(some 14), none, .plain (.mov (.tmp 6))⟩,
      ⟨(some 15), none, .plain (.bin .neq (.tmp 14) (.const (.int .i64 0)))⟩])
   (.cond (.tmp 15)
    (.both (.seq [⟨(some 16), none, .plain (.mov (.tmp 6))⟩,
       ⟨(some 2), none, .plain (.mov (.const (.slice none 0 0)))⟩,
       ⟨(some 3), none, .plain (.mov (.const (.slice none 0 0)))⟩,
       ⟨(some 4), none, .plain (.mov (.tmp 16))⟩])
    .ret)
    .skip))
  (.both (.seq [⟨(some 17), none, .plain (.mov (.tmp 5))⟩,
     ⟨(some 18), none, .plain (.mov (.tmp 0))⟩,
     ⟨(some 19), none, .plain (.makeMap)⟩,
     ⟨(some 20), none, .plain (.build (.str [(.pointer none), .nilIface, (.map none), (.slice none 0 0)] [(0, 1), (1, 1), (2, 1), (3, 1)]) [(0, (.tmp 17)), (1, (.tmp 18)), (2, (.tmp 19))])⟩,
     ⟨(some 21), none, .plain (.box (.tmp 20))⟩,
     ⟨(some 7), none, .plain (.mov (.tmp 21))⟩])
  (.both (.both (.seq [⟨(some 22), none, .plain (.mov (.tmp 7))⟩,
      ⟨(some 23), none, .plain (.mov (.tmp 5))⟩,
      ⟨(some 24), none, .plain (.nilCheck (.tmp 23))⟩,
      ⟨(some 25), none, .plain (.faddr 0 (.tmp 24))⟩,
      ⟨(some 26), none, .plain (.faddr 5 (.tmp 25))⟩,
      ⟨(some 27), none, .plain (.load none (.tmp 26))⟩,
      ⟨(some 28), none, .call 36 [(.tmp 22), (.const (.string ⟨#[]⟩)), (.tmp 27), (.const (.int .i64 0))]⟩,
      ⟨(some 8), none, .plain (.mov (.tmp 28))⟩])
   (.both (.seq [⟨(some 29), none, .plain (.mov (.tmp 8))⟩,
      ⟨(some 30), none, .plain (.bin .neq (.tmp 29) (.const (.int .i64 0)))⟩])
   (.cond (.tmp 30)
    (.both (.seq [⟨(some 31), none, .plain (.mov (.tmp 8))⟩,
       ⟨(some 2), none, .plain (.mov (.const (.slice none 0 0)))⟩,
       ⟨(some 3), none, .plain (.mov (.const (.slice none 0 0)))⟩,
       ⟨(some 4), none, .plain (.mov (.tmp 31))⟩])
    .ret)
    .skip)))
  (.both (.draw 0 [⟨0, .pure, 0, ⟨(some 32), none, .plain (.mov (.tmp 7))⟩, [], []⟩,
     ⟨1, .pure, 0, ⟨(some 33), none, .plain (.nilCheck (.tmp 32))⟩, [], []⟩,
     ⟨2, .pure, 0, ⟨(some 34), none, .plain (.faddr 3 (.tmp 33))⟩, [], []⟩,
     ⟨3, .read, 0, ⟨(some 35), none, .plain (.load none (.tmp 34))⟩, [], []⟩,
     ⟨4, .pure, 0, ⟨(some 36), none, .plain (.mov (.tmp 5))⟩, [], []⟩,
     ⟨5, .chain, 0, ⟨(some 37), none, .call 37 [(.tmp 36)]⟩, [3], []⟩,
     ⟨6, .pure, 0, ⟨(some 2), none, .plain (.mov (.tmp 35))⟩, [], []⟩,
     ⟨7, .pure, 0, ⟨(some 3), none, .plain (.mov (.tmp 37))⟩, [], []⟩,
     ⟨8, .pure, 0, ⟨(some 4), none, .plain (.mov (.const (.int .i64 0)))⟩, [], []⟩])
  .ret))))))⟩
/-- fettle/extdir.Tree -/
def a10 : AFunc := ⟨1, [.tmp 2, .tmp 3, .tmp 4],
  (.both (.seq [⟨(some 2), none, .plain (.mov (.const (.slice none 0 0)))⟩,
     ⟨(some 3), none, .plain (.mov (.const (.slice none 0 0)))⟩,
     ⟨(some 4), none, .plain (.mov (.const (.int .i64 0)))⟩])
  (.both (.seq [⟨(some 9), none, .plain (.mov (.tmp 0))⟩,
     ⟨(some 10), none, .call 25 [(.tmp 9)]⟩,
     ⟨(some 8), none, .plain (.mov (.tmp 10))⟩,
     ⟨(some 11), none, .plain (.extract (.tmp 8) 0)⟩,
     ⟨(some 12), none, .plain (.extract (.tmp 8) 1)⟩,
     ⟨(some 5), none, .plain (.mov (.tmp 11))⟩,
     ⟨(some 6), none, .plain (.mov (.tmp 12))⟩])
  (.both (.both (.seq [⟨(some 13), none, .plain (.mov (.tmp 6))⟩,
      ⟨(some 14), none, .plain (.bin .neq (.tmp 13) (.const (.int .i64 0)))⟩])
   (.cond (.tmp 14)
    (.both (.seq [⟨(some 15), none, .plain (.mov (.tmp 6))⟩,
       ⟨(some 2), none, .plain (.mov (.const (.slice none 0 0)))⟩,
       ⟨(some 3), none, .plain (.mov (.const (.slice none 0 0)))⟩,
       ⟨(some 4), none, .plain (.mov (.tmp 15))⟩])
    .ret)
    .skip))
  (.both (.seq [⟨(some 17), none, .plain (.mov (.tmp 5))⟩,
     ⟨(some 18), none, .call 38 [(.tmp 17)]⟩,
     ⟨(some 16), none, .plain (.mov (.tmp 18))⟩,
     ⟨(some 19), none, .plain (.extract (.tmp 16) 0)⟩,
     ⟨(some 20), none, .plain (.extract (.tmp 16) 1)⟩,
     ⟨(some 7), none, .plain (.mov (.tmp 19))⟩,
     ⟨(some 6), none, .plain (.mov (.tmp 20))⟩])
  (.both (.both (.seq [⟨(some 21), none, .plain (.mov (.tmp 6))⟩,
      ⟨(some 22), none, .plain (.bin .neq (.tmp 21) (.const (.int .i64 0)))⟩])
   (.cond (.tmp 22)
    (.both (.seq [⟨(some 23), none, .plain (.mov (.tmp 6))⟩,
       ⟨(some 2), none, .plain (.mov (.const (.slice none 0 0)))⟩,
       ⟨(some 3), none, .plain (.mov (.const (.slice none 0 0)))⟩,
       ⟨(some 4), none, .plain (.mov (.tmp 23))⟩])
    .ret)
    .skip))
  (.both (.draw 0 [⟨0, .pure, 0, ⟨(some 24), none, .plain (.mov (.tmp 7))⟩, [], []⟩,
     ⟨1, .pure, 0, ⟨(some 25), none, .plain (.nilCheck (.tmp 24))⟩, [], []⟩,
     ⟨2, .pure, 0, ⟨(some 26), none, .plain (.faddr 4 (.tmp 25))⟩, [], []⟩,
     ⟨3, .read, 0, ⟨(some 27), none, .plain (.load none (.tmp 26))⟩, [], []⟩,
     ⟨4, .pure, 0, ⟨(some 28), none, .plain (.mov (.tmp 5))⟩, [], []⟩,
     ⟨5, .chain, 0, ⟨(some 29), none, .call 39 [(.tmp 28)]⟩, [3], []⟩,
     ⟨6, .pure, 0, ⟨(some 2), none, .plain (.mov (.tmp 27))⟩, [], []⟩,
     ⟨7, .pure, 0, ⟨(some 3), none, .plain (.mov (.tmp 29))⟩, [], []⟩,
     ⟨8, .pure, 0, ⟨(some 4), none, .plain (.mov (.const (.int .i64 0)))⟩, [], []⟩])
  .ret))))))⟩
/-- fettle/fat.Open -/
def a17 : AFunc := ⟨1, [.tmp 2, .tmp 3],
  (.both (.seq [⟨(some 2), none, .plain (.mov (.const (.pointer none)))⟩,
     ⟨(some 3), none, .plain (.mov (.const (.int .i64 0)))⟩])
  (.both (.both (.seq [⟨(some 12), none, .plain (.mov (.tmp 0))⟩,
      ⟨(some 13), none, .plain (.eqN false .iface true (.tmp 12) (.const .nilIface))⟩])
   (.cond (.tmp 13)
    (.both (.seq [⟨(some 2), none, .plain (.mov (.const (.pointer none)))⟩,
       ⟨(some 3), none, .plain (.mov (.const (.int .i64 2)))⟩])
    .ret)
    .skip))
  (.both (.seq [⟨(some 15), none, .plain (.mov (.tmp 0))⟩,
     ⟨(some 16), none, .invoke (.tmp 15) [(81, 63), (99, 200), (133, 202)] [(.const (.int .i64 0)), (.const (.int .i64 512))]⟩,
     ⟨(some 14), none, .plain (.mov (.tmp 16))⟩,
     ⟨(some 17), none, .plain (.extract (.tmp 14) 0)⟩,
     ⟨(some 18), none, .plain (.extract (.tmp 14) 1)⟩,
     ⟨(some 4), none, .plain (.mov (.tmp 17))⟩,
     ⟨(some 5), none, .plain (.mov (.tmp 18))⟩])
  (.both (.both (.seq [⟨(some 19), none, .plain (.mov (.tmp 5))⟩,
      ⟨(some 20), none, .plain (.bin .neq (.tmp 19) (.const (.int .i64 0)))⟩])
   (.cond (.tmp 20)
    (.both (.seq [⟨(some 21), none, .plain (.mov (.tmp 5))⟩,
       ⟨(some 2), none, .plain (.mov (.const (.pointer none)))⟩,
       ⟨(some 3), none, .plain (.mov (.tmp 21))⟩])
    .ret)
    .skip))
  (.both (.seq [⟨(some 23), none, .plain (.mov (.tmp 4))⟩,
     ⟨(some 24), none, .call 55 [(.tmp 23)]⟩,
     ⟨(some 22), none, .plain (.mov (.tmp 24))⟩,
     ⟨(some 25), none, .plain (.extract (.tmp 22) 0)⟩,
     ⟨(some 26), none, .plain (.extract (.tmp 22) 1)⟩,
     ⟨(some 6), none, .plain (.alloc [(.int .i64 0), (.int .i64 0), (.int .i64 0), (.int .i64 0), (.int .i64 0), (.int .i64 0), (.int .i64 0), (.int .i64 0)])⟩,
     ⟨none, none, .plain (.store 8 (.tmp 6) (.tmp 25))⟩,
     ⟨(some 5), none, .plain (.mov (.tmp 26))⟩])
  (.both (.both (.seq [⟨(some 27), none, .plain (.mov (.tmp 5))⟩,
      ⟨(some 28), none, .plain (.bin .neq (.tmp 27) (.const (.int .i64 0)))⟩])
   (.cond (.tmp 28)
    (.both (.seq [⟨(some 29), none, .plain (.mov (.tmp 5))⟩,
       ⟨(some 2), none, .plain (.mov (.const (.pointer none)))⟩,
       ⟨(some 3), none, .plain (.mov (.tmp 29))⟩])
    .ret)
    .skip))
  (.both (.both (.draw 0 [⟨0, .pure, 0, ⟨(some 30), none, .plain (.faddr 3 (.tmp 6))⟩, [], []⟩,
      ⟨1, .read, 0, ⟨(some 31), none, .plain (.load none (.tmp 30))⟩, [], []⟩,
      ⟨2, .pure, 0, ⟨(some 32), none, .plain (.mov (.tmp 0))⟩, [], []⟩,
      ⟨3, .chain, 0, ⟨(some 33), none, .invoke (.tmp 32) [(17, 197), (99, 201), (133, 203)] []⟩, [1], []⟩,
      ⟨4, .pure, 0, ⟨(some 34), none, .plain (.bin .quo (.tmp 33) (.const (.int .i64 512)))⟩, [], []⟩,
      ⟨5, .pure, 0, ⟨(some 35), none, .plain (.bin .gtr (.tmp 31) (.tmp 34))⟩, [], []⟩])
   (.cond (.tmp 35)
    (.both (.seq [⟨(some 2), none, .plain (.mov (.const (.pointer none)))⟩,
       ⟨(some 3), none, .plain (.mov (.const (.int .i64 4)))⟩])
    .ret)
    .skip))
  (.both (.both (.seq [⟨(some 36), none, .plain (.faddr 7 (.tmp 6))⟩,
      ⟨(some 37), none, .plain (.load none (.tmp 36))⟩,
      ⟨(some 38), none, .plain (.bin .neq (.tmp 37) (.const (.int .i64 0)))⟩])
   (.cond (.tmp 38)
    (.both (.seq [⟨(some 40), none, .plain (.mov (.tmp 0))⟩,
       ⟨(some 41), none, .plain (.faddr 7 (.tmp 6))⟩,
       ⟨(some 42), none, .plain (.load none (.tmp 41))⟩,
       ⟨(some 43), none, .plain (.bin .mul (.tmp 42) (.const (.int .i64 512)))⟩,
       ⟨(some 44), none, .invoke (.tmp 40) [(81, 63), (99, 200), (133, 202)] [(.tmp 43), (.const (.int .i64 512))]⟩,
       ⟨(some 39), none, .plain (.mov (.tmp 44))⟩,
       ⟨(some 45), none, .plain (.extract (.tmp 39) 0)⟩,
       ⟨(some 46), none, .plain (.extract (.tmp 39) 1)⟩,
       ⟨(some 7), none, .plain (.mov (.tmp 45))⟩,
       ⟨(some 8), none, .plain (.mov (.tmp 46))⟩])
    (.both (.both (.seq [⟨(some 47), none, .plain (.mov (.tmp 8))⟩,
        ⟨(some 48), none, .plain (.bin .neq (.tmp 47) (.const (.int .i64 0)))⟩])
     (.cond (.tmp 48)
      (.both (.seq [⟨(some 49), none, .plain (.mov (.tmp 8))⟩,
         ⟨(some 2), none, .plain (.mov (.const (.pointer none)))⟩,
         ⟨(some 3), none, .plain (.mov (.tmp 49))⟩])
      .ret)
      .skip))
    (.both (.seq [⟨(some 50), none, .plain (.mov (.tmp 7))⟩,
       ⟨(some 51), none, .plain (.conv .b2s (.tmp 50))⟩,
       ⟨(some 52), none, .plain (.mov (.tmp 4))⟩,
       ⟨(some 53), none, .plain (.conv .b2s (.tmp 52))⟩,
       ⟨(some 54), none, .plain (.bin .neq (.tmp 51) (.tmp 53))⟩])
    (.cond (.tmp 54)
     (.both (.seq [⟨(some 2), none, .plain (.mov (.const (.pointer none)))⟩,
        ⟨(some 3), none, .plain (.mov (.const (.int .i64 11)))⟩])
     .ret)
     .skip))))
    .skip))
  (.both (.seq [⟨(some 55), none, .plain (.load (some 8) (.tmp 6))⟩,
     ⟨(some 56), none, .plain (.build (.str [(.int .i64 0), (.int .i64 0), (.int .i64 0), (.int .i64 0), (.int .i64 0), (.int .i64 0), (.int .i64 0), (.int .i64 0), (.slice none 0 0), (.int .i64 0), (.int .i64 0)] [(0, 8), (8, 1), (9, 2)]) [(0, (.tmp 55))])⟩,
     ⟨(some 57), none, .plain (.box (.tmp 56))⟩,
     ⟨(some 9), none, .plain (.mov (.tmp 57))⟩])
  (.both (.seq [⟨(some 59), none, .plain (.mov (.tmp 0))⟩,
     ⟨(some 60), none, .plain (.faddr 6 (.tmp 6))⟩,
     ⟨(some 61), none, .plain (.load none (.tmp 60))⟩,
     ⟨(some 62), none, .plain (.bin .mul (.tmp 61) (.const (.int .i64 512)))⟩,
     ⟨(some 63), none, .invoke (.tmp 59) [(81, 63), (99, 200), (133, 202)] [(.tmp 62), (.const (.int .i64 512))]⟩,
     ⟨(some 58), none, .plain (.mov (.tmp 63))⟩,
     ⟨(some 64), none, .plain (.extract (.tmp 58) 0)⟩,
     ⟨(some 65), none, .plain (.extract (.tmp 58) 1)⟩,
     ⟨(some 10), none, .plain (.mov (.tmp 64))⟩,
     ⟨(some 5), none, .plain (.mov (.tmp 65))⟩])
  (.both (.both (.seq [⟨(some 66), none, .plain (.mov (.tmp 5))⟩,
      ⟨(some 67), none, .plain (.bin .neq (.tmp 66) (.const (.int .i64 0)))⟩])
   (.cond (.tmp 67)
    (.both (.seq [⟨(some 68), none, .plain (.mov (.tmp 5))⟩,
       ⟨(some 2), none, .plain (.mov (.const (.pointer none)))⟩,
       ⟨(some 3), none, .plain (.mov (.tmp 68))⟩])
    .ret)
    .skip))
  (.both (.both (.seq [⟨(some 70), none, .plain (.mov (.tmp 9))⟩,
      ⟨(some 71), none, .plain (.mov (.tmp 10))⟩,
      ⟨(some 72), none, .call 56 [(.tmp 71)]⟩,
      ⟨(some 69), none, .plain (.mov (.tmp 72))⟩,
      ⟨(some 73), none, .plain (.extract (.tmp 69) 0)⟩,
      ⟨(some 74), none, .plain (.extract (.tmp 69) 1)⟩,
      ⟨(some 75), none, .plain (.nilCheck (.tmp 70))⟩,
      ⟨(some 76), none, .plain (.faddr 9 (.tmp 75))⟩,
      ⟨none, none, .plain (.store 2 (.tmp 76) (.tmp 73))⟩,
      ⟨(some 5), none, .plain (.mov (.tmp 74))⟩])
   (.both (.seq [⟨(some 77), none, .plain (.mov (.tmp 5))⟩,
      ⟨(some 78), none, .plain (.bin .neq (.tmp 77) (.const (.int .i64 0)))⟩])
   (.cond (.tmp 78)
    (.both (.seq [⟨(some 79), none, .plain (.mov (.tmp 5))⟩,
       ⟨(some 2), none, .plain (.mov (.const (.pointer none)))⟩,
       ⟨(some 3), none, .plain (.mov (.tmp 79))⟩])
    .ret)
    .skip)))
  (.both (.both (.seq [⟨(some 80), none, .plain (.mov (.tmp 9))⟩,
      ⟨(some 81), none, .plain (.mov (.tmp 0))⟩,
      ⟨(some 82), none, .call 57 [(.tmp 80), (.tmp 81)]⟩,
      ⟨(some 11), none, .plain (.mov (.tmp 82))⟩])
   (.both (.seq [⟨(some 83), none, .plain (.mov (.tmp 11))⟩,
      ⟨(some 84), none, .plain (.bin .neq (.tmp 83) (.const (.int .i64 0)))⟩])
   (.cond (.tmp 84)
    (.both (.seq [⟨(some 85), none, .plain (.mov (.tmp 11))⟩,
       ⟨(some 2), none, .plain (.mov (.const (.pointer none)))⟩,
       ⟨(some 3), none, .plain (.mov (.tmp 85))⟩])
    .ret)
    .skip)))
  (.both (.both (.draw 0 [⟨0, .pure, 0, ⟨(some 86), none, .plain (.mov (.tmp 9))⟩, [], []⟩,
      ⟨1, .pure, 0, ⟨(some 87), none, .plain (.nilCheck (.tmp 86))⟩, [], []⟩,
      ⟨2, .pure, 0, ⟨(some 88), none, .plain (.faddr 9 (.tmp 87))⟩, [], []⟩,
      ⟨3, .pure, 0, ⟨(some 89), none, .plain (.faddr 0 (.tmp 88))⟩, [], []⟩,
      ⟨4, .read, 0, ⟨(some 90), none, .plain (.load none (.tmp 89))⟩, [], []⟩,
      ⟨5, .pure, 0, ⟨(some 91), none, .plain (.bin .neq (.tmp 90) (.const (.int .i64 4294967295)))⟩, [], []⟩,
      ⟨6, .pure, 0, ⟨(some 92), none, .plain (.mov (.tmp 91))⟩, [], []⟩,
      ⟨7, .pure, 0, ⟨(some 93), (some (92, true)), .plain (.mov (.tmp 9))⟩, [], []⟩,
      ⟨8, .pure, 0, ⟨(some 94), (some (92, true)), .plain (.nilCheck (.tmp 93))⟩, [], []⟩,
      ⟨9, .pure, 0, ⟨(some 95), (some (92, true)), .plain (.faddr 9 (.tmp 94))⟩, [], []⟩,
      ⟨10, .pure, 0, ⟨(some 96), (some (92, true)), .plain (.faddr 0 (.tmp 95))⟩, [], []⟩,
      ⟨11, .read, 0, ⟨(some 97), (some (92, true)), .plain (.load none (.tmp 96))⟩, [], []⟩,
      ⟨12, .pure, 0, ⟨(some 98), (some (92, true)), .plain (.mov (.tmp 9))⟩, [], []⟩,
      ⟨13, .chain, 0, ⟨(some 99), (some (92, true)), .call 58 [(.tmp 98)]⟩, [11], []⟩,
      ⟨14, .pure, 0, ⟨(some 100), (some (92, true)), .plain (.bin .neq (.tmp 97) (.tmp 99))⟩, [], []⟩,
      ⟨15, .pure, 0, ⟨(some 101), none, .plain (.pick (.tmp 92) (.tmp 100) (.const (.bool false)))⟩, [], []⟩])
   (.cond (.tmp 101)
    (.both (.seq [⟨(some 2), none, .plain (.mov (.const (.pointer none)))⟩,
       ⟨(some 3), none, .plain (.mov (.const (.int .i64 23)))⟩])
    .ret)
    .skip))
  (.both (.seq [⟨(some 102), none, .plain (.mov (.tmp 9))⟩,
     ⟨(some 2), none, .plain (.mov (.tmp 102))⟩,
     ⟨(some 3), none, .plain (.mov (.const (.int .i64 0)))⟩])
  .ret)))))))))))))))⟩
/-- (fettle/fat.Boot).Check -/
def a18 : AFunc := ⟨1, [.tmp 2],
  (.both (.seq [⟨(some 1), none, .plain (.box (.tmp 0))⟩,
     ⟨(some 2), none, .plain (.mov (.const (.int .i64 0)))⟩])
  (.both (.block 0 (.both (.seq [⟨(some 4), none, .plain (.faddr 0 (.tmp 1))⟩,
       ⟨(some 5), none, .plain (.load none (.tmp 4))⟩,
       ⟨(some 6), none, .plain (.bin .lss (.tmp 5) (.const (.int .i64 1)))⟩,
       ⟨(some 7), none, .plain (.mov (.tmp 6))⟩,
       ⟨(some 8), (some (7, false)), .plain (.faddr 0 (.tmp 1))⟩,
       ⟨(some 9), (some (7, false)), .plain (.load none (.tmp 8))⟩,
       ⟨(some 10), (some (7, false)), .plain (.bin .gtr (.tmp 9) (.const (.int .i64 8)))⟩,
       ⟨(some 11), none, .plain (.pick (.tmp 7) (.const (.bool true)) (.tmp 10))⟩,
       ⟨(some 12), none, .plain (.mov (.tmp 11))⟩,
       ⟨(some 13), (some (12, false)), .plain (.faddr 0 (.tmp 1))⟩,
       ⟨(some 14), (some (12, false)), .plain (.load none (.tmp 13))⟩,
       ⟨(some 15), (some (12, false)), .plain (.faddr 0 (.tmp 1))⟩,
       ⟨(some 16), (some (12, false)), .plain (.load none (.tmp 15))⟩,
       ⟨(some 17), (some (12, false)), .plain (.bin .sub (.tmp 16) (.const (.int .i64 1)))⟩,
       ⟨(some 18), (some (12, false)), .plain (.bin .and (.tmp 14) (.tmp 17))⟩,
       ⟨(some 19), (some (12, false)), .plain (.bin .neq (.tmp 18) (.const (.int .i64 0)))⟩,
       ⟨(some 20), none, .plain (.pick (.tmp 12) (.const (.bool true)) (.tmp 19))⟩,
       ⟨(some 21), none, .plain (.mov (.tmp 20))⟩,
       ⟨(some 22), (some (21, false)), .plain (.faddr 2 (.tmp 1))⟩,
       ⟨(some 23), (some (21, false)), .plain (.load none (.tmp 22))⟩,
       ⟨(some 24), (some (21, false)), .plain (.bin .lss (.tmp 23) (.const (.int .i64 1)))⟩,
       ⟨(some 25), none, .plain (.pick (.tmp 21) (.const (.bool true)) (.tmp 24))⟩,
       ⟨(some 26), none, .plain (.mov (.tmp 25))⟩,
       ⟨(some 27), (some (26, false)), .plain (.faddr 2 (.tmp 1))⟩,
       ⟨(some 28), (some (26, false)), .plain (.load none (.tmp 27))⟩,
       ⟨(some 29), (some (26, false)), .plain (.bin .gtr (.tmp 28) (.const (.int .i64 2)))⟩,
       ⟨(some 30), none, .plain (.pick (.tmp 26) (.const (.bool true)) (.tmp 29))⟩,
       ⟨(some 3), none, .plain (.mov (.tmp 30))⟩])
    (.cond (.tmp 3)
     (.both (.seq [⟨(some 2), none, .plain (.mov (.const (.int .i64 11)))⟩])
     .ret)
     (.both (.seq [⟨(some 32), none, .plain (.faddr 3 (.tmp 1))⟩,
        ⟨(some 33), none, .plain (.load none (.tmp 32))⟩,
        ⟨(some 34), none, .plain (.bin .lss (.tmp 33) (.const (.int .i64 1)))⟩,
        ⟨(some 35), none, .plain (.mov (.tmp 34))⟩,
        ⟨(some 36), (some (35, false)), .plain (.faddr 3 (.tmp 1))⟩,
        ⟨(some 37), (some (35, false)), .plain (.load none (.tmp 36))⟩,
        ⟨(some 38), (some (35, false)), .plain (.bin .gtr (.tmp 37) (.const (.int .i64 32768)))⟩,
        ⟨(some 39), none, .plain (.pick (.tmp 35) (.const (.bool true)) (.tmp 38))⟩,
        ⟨(some 40), none, .plain (.mov (.tmp 39))⟩,
        ⟨(some 41), (some (40, false)), .plain (.faddr 4 (.tmp 1))⟩,
        ⟨(some 42), (some (40, false)), .plain (.load none (.tmp 41))⟩,
        ⟨(some 43), (some (40, false)), .plain (.bin .lss (.tmp 42) (.const (.int .i64 1)))⟩,
        ⟨(some 44), none, .plain (.pick (.tmp 40) (.const (.bool true)) (.tmp 43))⟩,
        ⟨(some 45), none, .plain (.mov (.tmp 44))⟩,
        ⟨(some 46), (some (45, false)), .plain (.faddr 4 (.tmp 1))⟩,
        ⟨(some 47), (some (45, false)), .plain (.load none (.tmp 46))⟩,
        ⟨(some 48), (some (45, false)), .plain (.faddr 3 (.tmp 1))⟩,
        ⟨(some 49), (some (45, false)), .plain (.load none (.tmp 48))⟩,
        ⟨(some 50), (some (45, false)), .plain (.bin .gtr (.tmp 47) (.tmp 49))⟩,
        ⟨(some 51), none, .plain (.pick (.tmp 45) (.const (.bool true)) (.tmp 50))⟩,
        ⟨(some 52), none, .plain (.mov (.tmp 51))⟩,
        ⟨(some 53), (some (52, false)), .plain (.faddr 1 (.tmp 1))⟩,
        ⟨(some 54), (some (52, false)), .plain (.load none (.tmp 53))⟩,
        ⟨(some 55), (some (52, false)), .plain (.bin .lss (.tmp 54) (.const (.int .i64 2)))⟩,
        ⟨(some 56), none, .plain (.pick (.tmp 52) (.const (.bool true)) (.tmp 55))⟩,
        ⟨(some 57), none, .plain (.mov (.tmp 56))⟩,
        ⟨(some 58), (some (57, false)), .plain (.faddr 1 (.tmp 1))⟩,
        ⟨(some 59), (some (57, false)), .plain (.load none (.tmp 58))⟩,
        ⟨(some 60), (some (57, false)), .plain (.bin .gtr (.tmp 59) (.const (.int .i64 64)))⟩,
        ⟨(some 61), none, .plain (.pick (.tmp 57) (.const (.bool true)) (.tmp 60))⟩,
        ⟨(some 31), none, .plain (.mov (.tmp 61))⟩])
     (.cond (.tmp 31)
      (.both (.seq [⟨(some 2), none, .plain (.mov (.const (.int .i64 11)))⟩])
      .ret)
      (.both (.seq [⟨(some 63), none, .plain (.faddr 6 (.tmp 1))⟩,
         ⟨(some 64), none, .plain (.load none (.tmp 63))⟩,
         ⟨(some 65), none, .plain (.bin .lss (.tmp 64) (.const (.int .i64 1)))⟩,
         ⟨(some 66), none, .plain (.mov (.tmp 65))⟩,
         ⟨(some 67), (some (66, false)), .plain (.faddr 6 (.tmp 1))⟩,
         ⟨(some 68), (some (66, false)), .plain (.load none (.tmp 67))⟩,
         ⟨(some 69), (some (66, false)), .plain (.faddr 1 (.tmp 1))⟩,
         ⟨(some 70), (some (66, false)), .plain (.load none (.tmp 69))⟩,
         ⟨(some 71), (some (66, false)), .plain (.bin .geq (.tmp 68) (.tmp 70))⟩,
         ⟨(some 72), none, .plain (.pick (.tmp 66) (.const (.bool true)) (.tmp 71))⟩,
         ⟨(some 73), none, .plain (.mov (.tmp 72))⟩,
         ⟨(some 74), (some (73, false)), .plain (.faddr 7 (.tmp 1))⟩,
         ⟨(some 75), (some (73, false)), .plain (.load none (.tmp 74))⟩,
         ⟨(some 76), (some (73, false)), .plain (.bin .lss (.tmp 75) (.const (.int .i64 0)))⟩,
         ⟨(some 77), none, .plain (.pick (.tmp 73) (.const (.bool true)) (.tmp 76))⟩,
         ⟨(some 78), none, .plain (.mov (.tmp 77))⟩,
         ⟨(some 79), (some (78, false)), .plain (.faddr 7 (.tmp 1))⟩,
         ⟨(some 80), (some (78, false)), .plain (.load none (.tmp 79))⟩,
         ⟨(some 81), (some (78, false)), .plain (.faddr 1 (.tmp 1))⟩,
         ⟨(some 82), (some (78, false)), .plain (.load none (.tmp 81))⟩,
         ⟨(some 83), (some (78, false)), .plain (.bin .geq (.tmp 80) (.tmp 82))⟩,
         ⟨(some 84), none, .plain (.pick (.tmp 78) (.const (.bool true)) (.tmp 83))⟩,
         ⟨(some 85), none, .plain (.mov (.tmp 84))⟩,
         ⟨(some 86), (some (85, false)), .plain (.faddr 7 (.tmp 1))⟩,
         ⟨(some 87), (some (85, false)), .plain (.load none (.tmp 86))⟩,
         ⟨(some 88), (some (85, false)), .plain (.faddr 6 (.tmp 1))⟩,
         ⟨(some 89), (some (85, false)), .plain (.load none (.tmp 88))⟩,
         ⟨(some 90), (some (85, false)), .plain (.bin .eql (.tmp 87) (.tmp 89))⟩,
         ⟨(some 91), none, .plain (.pick (.tmp 85) (.const (.bool true)) (.tmp 90))⟩,
         ⟨(some 62), none, .plain (.mov (.tmp 91))⟩])
      (.cond (.tmp 62)
       (.both (.seq [⟨(some 2), none, .plain (.mov (.const (.int .i64 11)))⟩])
       .ret)
       (.both (.draw 0 [⟨0, .read, 0, ⟨(some 93), none, .plain (.load (some 8) (.tmp 1))⟩, [], []⟩,
          ⟨2, .pure, 0, ⟨(some 95), none, .plain (.faddr 3 (.tmp 1))⟩, [], []⟩,
          ⟨3, .read, 0, ⟨(some 96), none, .plain (.load none (.tmp 95))⟩, [], []⟩,
          ⟨1, .chain, 0, ⟨(some 94), none, .call 19 [(.tmp 93)]⟩, [3], []⟩,
          ⟨4, .pure, 0, ⟨(some 97), none, .plain (.bin .geq (.tmp 94) (.tmp 96))⟩, [], []⟩,
          ⟨5, .pure, 0, ⟨(some 98), none, .plain (.mov (.tmp 97))⟩, [], []⟩,
          ⟨6, .read, 0, ⟨(some 99), (some (98, false)), .plain (.load (some 8) (.tmp 1))⟩, [], []⟩,
          ⟨7, .chain, 0, ⟨(some 100), (some (98, false)), .call 20 [(.tmp 99)]⟩, [], []⟩,
          ⟨8, .pure, 0, ⟨(some 101), (some (98, false)), .plain (.bin .lss (.tmp 100) (.const (.int .i64 1)))⟩, [], []⟩,
          ⟨9, .pure, 0, ⟨(some 102), none, .plain (.pick (.tmp 98) (.const (.bool true)) (.tmp 101))⟩, [], []⟩,
          ⟨10, .pure, 0, ⟨(some 92), none, .plain (.mov (.tmp 102))⟩, [], []⟩])
       (.cond (.tmp 92)
        (.both (.seq [⟨(some 2), none, .plain (.mov (.const (.int .i64 4)))⟩])
        .ret)
        (.both (.draw 0 [⟨0, .read, 0, ⟨(some 104), none, .plain (.load (some 8) (.tmp 1))⟩, [], []⟩,
           ⟨2, .pure, 0, ⟨(some 106), none, .plain (.faddr 4 (.tmp 1))⟩, [], []⟩,
           ⟨3, .read, 0, ⟨(some 107), none, .plain (.load none (.tmp 106))⟩, [], []⟩,
           ⟨4, .pure, 0, ⟨(some 108), none, .plain (.bin .mul (.tmp 107) (.const (.int .i64 128)))⟩, [], []⟩,
           ⟨5, .pure, 0, ⟨(some 109), none, .plain (.bin .sub (.tmp 108) (.const (.int .i64 2)))⟩, [], []⟩,
           ⟨1, .chain, 0, ⟨(some 105), none, .call 20 [(.tmp 104)]⟩, [3], []⟩,
           ⟨6, .pure, 0, ⟨(some 110), none, .plain (.bin .gtr (.tmp 105) (.tmp 109))⟩, [], []⟩,
           ⟨7, .pure, 0, ⟨(some 103), none, .plain (.mov (.tmp 110))⟩, [], []⟩])
        (.cond (.tmp 103)
         (.both (.seq [⟨(some 2), none, .plain (.mov (.const (.int .i64 20)))⟩])
         .ret)
         (.both (.draw 0 [⟨0, .pure, 0, ⟨(some 112), none, .plain (.faddr 5 (.tmp 1))⟩, [], []⟩,
            ⟨1, .read, 0, ⟨(some 113), none, .plain (.load none (.tmp 112))⟩, [], []⟩,
            ⟨2, .pure, 0, ⟨(some 114), none, .plain (.bin .lss (.tmp 113) (.const (.int .i64 2)))⟩, [], []⟩,
            ⟨3, .pure, 0, ⟨(some 115), none, .plain (.mov (.tmp 114))⟩, [], []⟩,
            ⟨4, .pure, 0, ⟨(some 116), (some (115, false)), .plain (.faddr 5 (.tmp 1))⟩, [], []⟩,
            ⟨5, .read, 0, ⟨(some 117), (some (115, false)), .plain (.load none (.tmp 116))⟩, [], []⟩,
            ⟨6, .read, 0, ⟨(some 118), (some (115, false)), .plain (.load (some 8) (.tmp 1))⟩, [], []⟩,
            ⟨7, .chain, 0, ⟨(some 119), (some (115, false)), .call 20 [(.tmp 118)]⟩, [5], []⟩,
            ⟨8, .pure, 0, ⟨(some 120), (some (115, false)), .plain (.bin .add (.tmp 119) (.const (.int .i64 1)))⟩, [], []⟩,
            ⟨9, .pure, 0, ⟨(some 121), (some (115, false)), .plain (.bin .gtr (.tmp 117) (.tmp 120))⟩, [], []⟩,
            ⟨10, .pure, 0, ⟨(some 122), none, .plain (.pick (.tmp 115) (.const (.bool true)) (.tmp 121))⟩, [], []⟩,
            ⟨11, .pure, 0, ⟨(some 111), none, .plain (.mov (.tmp 122))⟩, [], []⟩])
         (.cond (.tmp 111)
          (.both (.seq [⟨(some 2), none, .plain (.mov (.const (.int .i64 4)))⟩])
          .ret)
          .skip)))))))))))))
  (.both (.seq [⟨(some 2), none, .plain (.mov (.const (.int .i64 0)))⟩])
  .ret)))⟩
/-- (fettle/fat.Boot).Data -/
def a19 : AFunc := ⟨1, [.tmp 2],
  (.both (.seq [⟨(some 1), none, .plain (.box (.tmp 0))⟩,
     ⟨(some 2), none, .plain (.mov (.const (.int .i64 0)))⟩])
  (.both (.seq [⟨(some 3), none, .plain (.faddr 1 (.tmp 1))⟩,
     ⟨(some 4), none, .plain (.load none (.tmp 3))⟩,
     ⟨(some 5), none, .plain (.faddr 2 (.tmp 1))⟩,
     ⟨(some 6), none, .plain (.load none (.tmp 5))⟩,
     ⟨(some 7), none, .plain (.faddr 4 (.tmp 1))⟩,
     ⟨(some 8), none, .plain (.load none (.tmp 7))⟩,
     ⟨(some 9), none, .plain (.bin .mul (.tmp 6) (.tmp 8))⟩,
     ⟨(some 10), none, .plain (.bin .add (.tmp 4) (.tmp 9))⟩,
     ⟨(some 2), none, .plain (.mov (.tmp 10))⟩])
  .ret))⟩
/-- (fettle/fat.Boot).Clusters -/
def a20 : AFunc := ⟨1, [.tmp 2],
  (.both (.seq [⟨(some 1), none, .plain (.box (.tmp 0))⟩,
     ⟨(some 2), none, .plain (.mov (.const (.int .i64 0)))⟩])
  (.both (.draw 0 [⟨0, .pure, 0, ⟨(some 3), none, .plain (.faddr 3 (.tmp 1))⟩, [], []⟩,
     ⟨1, .read, 0, ⟨(some 4), none, .plain (.load none (.tmp 3))⟩, [], []⟩,
     ⟨2, .read, 0, ⟨(some 5), none, .plain (.load (some 8) (.tmp 1))⟩, [], []⟩,
     ⟨5, .pure, 0, ⟨(some 8), none, .plain (.faddr 0 (.tmp 1))⟩, [], []⟩,
     ⟨6, .read, 0, ⟨(some 9), none, .plain (.load none (.tmp 8))⟩, [], []⟩,
     ⟨7, .pure, 0, ⟨(some 10), none, .plain (.minmax true (.const (.int .i64 1)) [(.tmp 9)])⟩, [], []⟩,
     ⟨3, .chain, 0, ⟨(some 6), none, .call 19 [(.tmp 5)]⟩, [6, 1], []⟩,
     ⟨4, .pure, 0, ⟨(some 7), none, .plain (.bin .sub (.tmp 4) (.tmp 6))⟩, [], []⟩,
     ⟨8, .pure, 0, ⟨(some 11), none, .plain (.bin .quo (.tmp 7) (.tmp 10))⟩, [], []⟩,
     ⟨9, .pure, 0, ⟨(some 12), none, .plain (.minmax true (.const (.int .i64 0)) [(.tmp 11)])⟩, [], []⟩,
     ⟨10, .pure, 0, ⟨(some 2), none, .plain (.mov (.tmp 12))⟩, [], []⟩])
  .ret))⟩
/-- (fettle/fat.Boot).Put -/
def a21 : AFunc := ⟨2, [.tmp 4],
  (.both (.seq [⟨(some 2), none, .plain (.box (.tmp 0))⟩,
     ⟨(some 4), none, .plain (.mov (.const (.int .i64 0)))⟩])
  (.both (.both (.seq [⟨(some 6), none, .plain (.mov (.tmp 1))⟩,
      ⟨(some 7), none, .plain (.len .sl (.tmp 6))⟩,
      ⟨(some 8), none, .plain (.bin .neq (.tmp 7) (.const (.int .i64 512)))⟩])
   (.cond (.tmp 8)
    (.both (.seq [⟨(some 4), none, .plain (.mov (.const (.int .i64 4)))⟩])
    .ret)
    .skip))
  (.both (.both (.seq [⟨(some 9), none, .plain (.load (some 8) (.tmp 2))⟩,
      ⟨(some 10), none, .call 18 [(.tmp 9)]⟩,
      ⟨(some 5), none, .plain (.mov (.tmp 10))⟩])
   (.both (.seq [⟨(some 11), none, .plain (.mov (.tmp 5))⟩,
      ⟨(some 12), none, .plain (.bin .neq (.tmp 11) (.const (.int .i64 0)))⟩])
   (.cond (.tmp 12)
    (.both (.seq [⟨(some 13), none, .plain (.mov (.tmp 5))⟩,
       ⟨(some 4), none, .plain (.mov (.tmp 13))⟩])
    .ret)
    .skip)))
  (.both (.seq [⟨(some 14), none, .plain (.mov (.tmp 1))⟩,
     ⟨(some 15), none, .call 59 [(.tmp 14), (.const (.int .i64 11)), (.const (.int .u16 512))]⟩])
  (.both (.draw 0 [⟨0, .pure, 0, ⟨(some 16), none, .plain (.mov (.tmp 1))⟩, [], []⟩,
     ⟨1, .pure, 0, ⟨(some 17), none, .plain (.mov (.tmp 1))⟩, [], []⟩,
     ⟨2, .pure, 0, ⟨(some 18), none, .plain (.faddr 0 (.tmp 2))⟩, [], []⟩,
     ⟨3, .read, 0, ⟨(some 19), none, .plain (.load none (.tmp 18))⟩, [], []⟩,
     ⟨4, .pure, 0, ⟨(some 20), none, .plain (.conv (.int .u8) (.tmp 19))⟩, [], []⟩,
     ⟨5, .pure, 0, ⟨(some 21), none, .plain (.faddr 2 (.tmp 2))⟩, [], []⟩,
     ⟨6, .read, 0, ⟨(some 22), none, .plain (.load none (.tmp 21))⟩, [], []⟩,
     ⟨7, .pure, 0, ⟨(some 23), none, .plain (.conv (.int .u8) (.tmp 22))⟩, [], []⟩,
     ⟨8, .pure, 0, ⟨(some 24), none, .plain (.iaddr none 1 (.tmp 16) (.const (.int .i64 13)))⟩, [], []⟩,
     ⟨9, .chain, 0, ⟨none, none, .plain (.store 1 (.tmp 24) (.tmp 20))⟩, [6], []⟩,
     ⟨10, .pure, 0, ⟨(some 25), none, .plain (.iaddr none 1 (.tmp 17) (.const (.int .i64 16)))⟩, [], []⟩,
     ⟨11, .chain, 0, ⟨none, none, .plain (.store 1 (.tmp 25) (.tmp 23))⟩, [], []⟩])
  (.both (.seq [⟨(some 26), none, .plain (.mov (.tmp 1))⟩,
     ⟨(some 27), none, .plain (.faddr 1 (.tmp 2))⟩,
     ⟨(some 28), none, .plain (.load none (.tmp 27))⟩,
     ⟨(some 29), none, .plain (.conv (.int .u16) (.tmp 28))⟩,
     ⟨(some 30), none, .call 59 [(.tmp 26), (.const (.int .i64 14)), (.tmp 29)]⟩])
  (.both (.seq [⟨(some 31), none, .plain (.mov (.tmp 1))⟩,
     ⟨(some 32), none, .call 59 [(.tmp 31), (.const (.int .i64 17)), (.const (.int .u16 0))]⟩])
  (.both (.seq [⟨(some 33), none, .plain (.mov (.tmp 1))⟩,
     ⟨(some 34), none, .call 59 [(.tmp 33), (.const (.int .i64 19)), (.const (.int .u16 0))]⟩])
  (.both (.seq [⟨(some 35), none, .plain (.mov (.tmp 1))⟩,
     ⟨(some 36), none, .call 59 [(.tmp 35), (.const (.int .i64 22)), (.const (.int .u16 0))]⟩])
  (.both (.seq [⟨(some 37), none, .plain (.mov (.tmp 1))⟩,
     ⟨(some 38), none, .plain (.faddr 3 (.tmp 2))⟩,
     ⟨(some 39), none, .plain (.load none (.tmp 38))⟩,
     ⟨(some 40), none, .plain (.conv (.int .u32) (.tmp 39))⟩,
     ⟨(some 41), none, .call 23 [(.tmp 37), (.const (.int .i64 32)), (.tmp 40)]⟩])
  (.both (.seq [⟨(some 42), none, .plain (.mov (.tmp 1))⟩,
     ⟨(some 43), none, .plain (.faddr 4 (.tmp 2))⟩,
     ⟨(some 44), none, .plain (.load none (.tmp 43))⟩,
     ⟨(some 45), none, .plain (.conv (.int .u32) (.tmp 44))⟩,
     ⟨(some 46), none, .call 23 [(.tmp 42), (.const (.int .i64 36)), (.tmp 45)]⟩])
  (.both (.seq [⟨(some 47), none, .plain (.mov (.tmp 1))⟩,
     ⟨(some 48), none, .call 23 [(.tmp 47), (.const (.int .i64 40)), (.const (.int .u32 0))]⟩])
  (.both (.seq [⟨(some 49), none, .plain (.mov (.tmp 1))⟩,
     ⟨(some 50), none, .plain (.faddr 5 (.tmp 2))⟩,
     ⟨(some 51), none, .plain (.load none (.tmp 50))⟩,
     ⟨(some 52), none, .plain (.conv (.int .u32) (.tmp 51))⟩,
     ⟨(some 53), none, .call 23 [(.tmp 49), (.const (.int .i64 44)), (.tmp 52)]⟩])
  (.both (.seq [⟨(some 54), none, .plain (.mov (.tmp 1))⟩,
     ⟨(some 55), none, .plain (.faddr 6 (.tmp 2))⟩,
     ⟨(some 56), none, .plain (.load none (.tmp 55))⟩,
     ⟨(some 57), none, .plain (.conv (.int .u16) (.tmp 56))⟩,
     ⟨(some 58), none, .call 59 [(.tmp 54), (.const (.int .i64 48)), (.tmp 57)]⟩])
  (.both (.seq [⟨(some 59), none, .plain (.mov (.tmp 1))⟩,
     ⟨(some 60), none, .plain (.faddr 7 (.tmp 2))⟩,
     ⟨(some 61), none, .plain (.load none (.tmp 60))⟩,
     ⟨(some 62), none, .plain (.conv (.int .u16) (.tmp 61))⟩,
     ⟨(some 63), none, .call 59 [(.tmp 59), (.const (.int .i64 50)), (.tmp 62)]⟩])
  (.both (.seq [⟨(some 64), none, .plain (.mov (.tmp 1))⟩,
     ⟨(some 65), none, .plain (.buildSlice ⟨1, 1, [(.int .u8 0)]⟩ 8 [(0, (.const (.int .u8 70))), (1, (.const (.int .u8 65))), (2, (.const (.int .u8 84))), (3, (.const (.int .u8 51))), (4, (.const (.int .u8 50))), (5, (.const (.int .u8 32))), (6, (.const (.int .u8 32))), (7, (.const (.int .u8 32)))])⟩,
     ⟨(some 66), none, .plain (.conv .mark (.tmp 65))⟩,
     ⟨(some 67), none, .call 60 [(.tmp 64), (.const (.int .i64 82)), (.tmp 66)]⟩])
  (.both (.seq [⟨(some 68), none, .plain (.mov (.tmp 1))⟩,
     ⟨(some 69), none, .plain (.mov (.tmp 1))⟩,
     ⟨(some 70), none, .plain (.iaddr none 1 (.tmp 68) (.const (.int .i64 510)))⟩,
     ⟨none, none, .plain (.store 1 (.tmp 70) (.const (.int .u8 85)))⟩,
     ⟨(some 71), none, .plain (.iaddr none 1 (.tmp 69) (.const (.int .i64 511)))⟩,
     ⟨none, none, .plain (.store 1 (.tmp 71) (.const (.int .u8 170)))⟩])
  (.both (.seq [⟨(some 4), none, .plain (.mov (.const (.int .i64 0)))⟩])
  .ret))))))))))))))))))⟩
/-- fettle/resize.counts -/
def a22 : AFunc := ⟨2, [.cell 4 (some 2)],
  (.both (.seq [⟨(some 4), none, .plain (.alloc [(.int .i64 0), (.int .i64 0)])⟩])
  (.both (.seq [⟨(some 7), none, .plain (.mov (.tmp 0))⟩,
     ⟨(some 8), none, .plain (.nilCheck (.tmp 7))⟩,
     ⟨(some 9), none, .plain (.faddr 9 (.tmp 8))⟩,
     ⟨(some 10), none, .plain (.load (some 2) (.tmp 9))⟩,
     ⟨(some 5), none, .plain (.alloc [(.int .i64 0), (.int .i64 0)])⟩,
     ⟨none, none, .plain (.store 2 (.tmp 5) (.tmp 10))⟩])
  (.both (.both (.seq [⟨(some 11), none, .plain (.faddr 0 (.tmp 5))⟩,
      ⟨(some 12), none, .plain (.load none (.tmp 11))⟩,
      ⟨(some 13), none, .plain (.bin .neq (.tmp 12) (.const (.int .i64 4294967295)))⟩])
   (.cond (.tmp 13)
    (.both (.seq [⟨(some 14), none, .plain (.faddr 0 (.tmp 5))⟩,
       ⟨none, none, .plain (.store 1 (.tmp 14) (.const (.int .i64 0)))⟩])
    (.both (.seq [⟨(some 6), none, .plain (.mov (.const (.int .i64 2)))⟩])
    (.block 0 (.loop (.both (.both (.seq [⟨(some 15), none, .plain (.mov (.tmp 6))⟩,
          ⟨(some 16), none, .plain (.mov (.tmp 1))⟩,
          ⟨(some 17), none, .plain (.bin .add (.tmp 16) (.const (.int .i64 2)))⟩,
          ⟨(some 18), none, .plain (.bin .lss (.tmp 15) (.tmp 17))⟩])
       (.cond (.tmp 18)
        .skip
        (.exit 0)))
      (.both (.block 1 (.both (.seq [⟨(some 21), none, .plain (.mov (.tmp 6))⟩,
           ⟨(some 22), none, .plain (.mov (.tmp 0))⟩,
           ⟨(some 23), none, .plain (.nilCheck (.tmp 22))⟩,
           ⟨(some 24), none, .plain (.faddr 8 (.tmp 23))⟩,
           ⟨(some 25), none, .plain (.load none (.tmp 24))⟩,
           ⟨(some 26), none, .plain (.len .sl (.tmp 25))⟩,
           ⟨(some 27), none, .plain (.bin .geq (.tmp 21) (.tmp 26))⟩,
           ⟨(some 28), none, .plain (.mov (.tmp 27))⟩,
           ⟨(some 29), (some (28, false)), .plain (.mov (.tmp 0))⟩,
           ⟨(some 30), (some (28, false)), .plain (.nilCheck (.tmp 29))⟩,
           ⟨(some 31), (some (28, false)), .plain (.faddr 8 (.tmp 30))⟩,
           ⟨(some 32), (some (28, false)), .plain (.load none (.tmp 31))⟩,
           ⟨(some 33), (some (28, false)), .plain (.mov (.tmp 6))⟩,
           ⟨(some 34), (some (28, false)), .plain (.iaddr none 1 (.tmp 32) (.tmp 33))⟩,
           ⟨(some 35), (some (28, false)), .plain (.load none (.tmp 34))⟩,
           ⟨(some 36), (some (28, false)), .plain (.bin .eql (.tmp 35) (.const (.int .u32 0)))⟩,
           ⟨(some 37), none, .plain (.pick (.tmp 28) (.const (.bool true)) (.tmp 36))⟩])
        (.cond (.tmp 37)
         (.seq [⟨(some 38), none, .plain (.faddr 0 (.tmp 5))⟩,
           ⟨(some 39), none, .plain (.load none (.tmp 38))⟩,
           ⟨(some 40), none, .plain (.bin .add (.tmp 39) (.const (.int .i64 1)))⟩,
           ⟨(some 41), none, .plain (.faddr 0 (.tmp 5))⟩,
           ⟨none, none, .plain (.store 1 (.tmp 41) (.tmp 40))⟩])
         .skip)))
      (.seq [⟨(some 19), none, .plain (.mov (.tmp 6))⟩,
        ⟨(some 20), none, .plain (.bin .add (.tmp 19) (.const (.int .i64 1)))⟩,
        ⟨(some 6), none, .plain (.mov (.tmp 20))⟩])))))))
    .skip))
  (.both (.both (.seq [⟨(some 42), none, .plain (.faddr 1 (.tmp 5))⟩,
      ⟨(some 43), none, .plain (.load none (.tmp 42))⟩,
      ⟨(some 44), none, .plain (.mov (.tmp 1))⟩,
      ⟨(some 45), none, .plain (.bin .add (.tmp 44) (.const (.int .i64 1)))⟩,
      ⟨(some 46), none, .plain (.bin .gtr (.tmp 43) (.tmp 45))⟩])
   (.cond (.tmp 46)
    (.seq [⟨(some 47), none, .plain (.faddr 1 (.tmp 5))⟩,
      ⟨none, none, .plain (.store 1 (.tmp 47) (.const (.int .i64 4294967295)))⟩])
    .skip))
  (.both (.seq [⟨(some 48), none, .plain (.load (some 2) (.tmp 5))⟩,
     ⟨none, none, .plain (.store 2 (.tmp 4) (.tmp 48))⟩])
  .ret)))))⟩
/-- fettle/octet.Put32 -/
def a23 : AFunc := ⟨3, [.tmp 6],
  (.both (.seq [⟨(some 6), none, .plain (.mov (.const (.bool false)))⟩])
  (.both (.seq [⟨(some 7), none, .plain (.mov (.tmp 0))⟩,
     ⟨(some 8), none, .plain (.mov (.tmp 1))⟩,
     ⟨(some 9), none, .plain (.mov (.tmp 2))⟩,
     ⟨(some 10), none, .call 61 [(.tmp 7), (.tmp 8), (.const (.int .i64 4)), (.tmp 9)]⟩,
     ⟨(some 6), none, .plain (.mov (.tmp 10))⟩])
  .ret))⟩
/-- fettle/ext.Open -/
def a25 : AFunc := ⟨1, [.tmp 2, .tmp 3],
  (.both (.seq [⟨(some 2), none, .plain (.mov (.const (.pointer none)))⟩,
     ⟨(some 3), none, .plain (.mov (.const (.int .i64 0)))⟩])
  (.both (.both (.seq [⟨(some 15), none, .plain (.mov (.tmp 0))⟩,
      ⟨(some 16), none, .plain (.eqN false .iface true (.tmp 15) (.const .nilIface))⟩])
   (.cond (.tmp 16)
    (.both (.seq [⟨(some 2), none, .plain (.mov (.const (.pointer none)))⟩,
       ⟨(some 3), none, .plain (.mov (.const (.int .i64 2)))⟩])
    .ret)
    .skip))
  (.both (.seq [⟨(some 18), none, .plain (.mov (.tmp 0))⟩,
     ⟨(some 19), none, .invoke (.tmp 18) [(81, 63), (99, 200), (133, 202)] [(.const (.int .i64 1024)), (.const (.int .i64 1024))]⟩,
     ⟨(some 17), none, .plain (.mov (.tmp 19))⟩,
     ⟨(some 20), none, .plain (.extract (.tmp 17) 0)⟩,
     ⟨(some 21), none, .plain (.extract (.tmp 17) 1)⟩,
     ⟨(some 4), none, .plain (.mov (.tmp 20))⟩,
     ⟨(some 5), none, .plain (.mov (.tmp 21))⟩])
  (.both (.both (.seq [⟨(some 22), none, .plain (.mov (.tmp 5))⟩,
      ⟨(some 23), none, .plain (.bin .neq (.tmp 22) (.const (.int .i64 0)))⟩])
   (.cond (.tmp 23)
    (.both (.seq [⟨(some 24), none, .plain (.mov (.tmp 5))⟩,
       ⟨(some 2), none, .plain (.mov (.const (.pointer none)))⟩,
       ⟨(some 3), none, .plain (.mov (.tmp 24))⟩])
    .ret)
    .skip))
  (.both (.seq [⟨(some 26), none, .plain (.mov (.tmp 4))⟩,
     ⟨(some 27), none, .call 62 [(.tmp 26)]⟩,
     ⟨(some 25), none, .plain (.mov (.tmp 27))⟩,
     ⟨(some 28), none, .plain (.extract (.tmp 25) 0)⟩,
     ⟨(some 29), none, .plain (.extract (.tmp 25) 1)⟩,
     ⟨(some 6), none, .plain (.alloc [(.int .i64 0), (.int .i64 0), (.int .i64 0), (.int .i64 0), (.int .i64 0), (.int .i64 0), (.int .i64 0), (.bool false)])⟩,
     ⟨none, none, .plain (.store 8 (.tmp 6) (.tmp 28))⟩,
     ⟨(some 5), none, .plain (.mov (.tmp 29))⟩])
  (.both (.both (.seq [⟨(some 30), none, .plain (.mov (.tmp 5))⟩,
      ⟨(some 31), none, .plain (.bin .neq (.tmp 30) (.const (.int .i64 0)))⟩])
   (.cond (.tmp 31)
    (.both (.seq [⟨(some 32), none, .plain (.mov (.tmp 5))⟩,
       ⟨(some 2), none, .plain (.mov (.const (.pointer none)))⟩,
       ⟨(some 3), none, .plain (.mov (.tmp 32))⟩])
    .ret)
    .skip))
  (.both (.both (.draw 0 [⟨0, .pure, 0, ⟨(some 33), none, .plain (.faddr 1 (.tmp 6))⟩, [], []⟩,
      ⟨1, .read, 0, ⟨(some 34), none, .plain (.load none (.tmp 33))⟩, [], []⟩,
      ⟨2, .pure, 0, ⟨(some 35), none, .plain (.mov (.tmp 0))⟩, [], []⟩,
      ⟨3, .chain, 0, ⟨(some 36), none, .invoke (.tmp 35) [(17, 197), (99, 201), (133, 203)] []⟩, [1], []⟩,
      ⟨4, .pure, 0, ⟨(some 37), none, .plain (.bin .quo (.tmp 36) (.const (.int .i64 1024)))⟩, [], []⟩,
      ⟨5, .pure, 0, ⟨(some 38), none, .plain (.bin .gtr (.tmp 34) (.tmp 37))⟩, [], []⟩])
   (.cond (.tmp 38)
    (.both (.seq [⟨(some 2), none, .plain (.mov (.const (.pointer none)))⟩,
       ⟨(some 3), none, .plain (.mov (.const (.int .i64 4)))⟩])
    .ret)
    .skip))
  (.both (.seq [⟨(some 39), none, .plain (.load (some 8) (.tmp 6))⟩,
     ⟨(some 40), none, .plain (.mov (.tmp 0))⟩,
     ⟨(some 41), none, .plain (.build (.str [(.int .i64 0), (.int .i64 0), (.int .i64 0), (.int .i64 0), (.int .i64 0), (.int .i64 0), (.int .i64 0), (.bool false), (.slice none 0 0), (.slice none 0 0), (.slice none 0 0), .nilIface] [(0, 8), (8, 1), (9, 1), (10, 1), (11, 1)]) [(0, (.tmp 39)), (4, (.tmp 40))])⟩,
     ⟨(some 42), none, .plain (.box (.tmp 41))⟩,
     ⟨(some 7), none, .plain (.mov (.tmp 42))⟩])
  (.both (.seq [⟨(some 44), none, .plain (.mov (.tmp 7))⟩,
     ⟨(some 45), none, .call 63 [(.tmp 44), (.const (.int .i64 2))]⟩,
     ⟨(some 43), none, .plain (.mov (.tmp 45))⟩,
     ⟨(some 46), none, .plain (.extract (.tmp 43) 0)⟩,
     ⟨(some 47), none, .plain (.extract (.tmp 43) 1)⟩,
     ⟨(some 8), none, .plain (.mov (.tmp 46))⟩,
     ⟨(some 5), none, .plain (.mov (.tmp 47))⟩])
  (.both (.both (.seq [⟨(some 48), none, .plain (.mov (.tmp 5))⟩,
      ⟨(some 49), none, .plain (.bin .neq (.tmp 48) (.const (.int .i64 0)))⟩])
   (.cond (.tmp 49)
    (.both (.seq [⟨(some 50), none, .plain (.mov (.tmp 5))⟩,
       ⟨(some 2), none, .plain (.mov (.const (.pointer none)))⟩,
       ⟨(some 3), none, .plain (.mov (.tmp 50))⟩])
    .ret)
    .skip))
  (.both (.seq [⟨(some 9), none, .plain (.mov (.const (.int .i64 0)))⟩,
     ⟨(some 10), none, .plain (.mov (.const (.int .i64 0)))⟩])
  (.both (.both (.seq [⟨(some 51), none, .plain (.load (some 8) (.tmp 6))⟩,
      ⟨(some 52), none, .call 26 [(.tmp 51)]⟩,
      ⟨(some 53), none, .plain (.mov (.const (.int .i64 0)))⟩])
   (.block 0 (.loop (.both (.seq [⟨(some 54), none, .plain (.bin .lss (.tmp 53) (.tmp 52))⟩])
     (.both (.cond (.tmp 54)
       .skip
       (.exit 0))
     (.both (.block 1 (.both (.seq [⟨(some 55), none, .plain (.mov (.tmp 53))⟩,
          ⟨(some 11), none, .plain (.mov (.tmp 55))⟩])
       (.both (.seq [⟨(some 57), none, .plain (.mov (.tmp 8))⟩,
          ⟨(some 58), none, .plain (.mov (.tmp 11))⟩,
          ⟨(some 59), none, .plain (.bin .mul (.tmp 58) (.const (.int .i64 32)))⟩,
          ⟨(some 60), none, .call 64 [(.tmp 57), (.tmp 59)]⟩,
          ⟨(some 56), none, .plain (.mov (.tmp 60))⟩,
          ⟨(some 61), none, .plain (.extract (.tmp 56) 0)⟩,
          ⟨(some 62), none, .plain (.extract (.tmp 56) 1)⟩,
          ⟨(some 12), none, .plain (.alloc [(.int .i64 0), (.int .i64 0), (.int .i64 0), (.int .i64 0), (.int .i64 0), (.int .i64 0)])⟩,
          ⟨none, none, .plain (.store 6 (.tmp 12) (.tmp 61))⟩,
          ⟨(some 13), none, .plain (.mov (.tmp 62))⟩])
       (.both (.both (.seq [⟨(some 63), none, .plain (.mov (.tmp 13))⟩,
           ⟨(some 64), none, .plain (.bin .neq (.tmp 63) (.const (.int .i64 0)))⟩])
        (.cond (.tmp 64)
         (.both (.seq [⟨(some 65), none, .plain (.mov (.tmp 13))⟩,
            ⟨(some 2), none, .plain (.mov (.const (.pointer none)))⟩,
            ⟨(some 3), none, .plain (.mov (.tmp 65))⟩])
         .ret)
         .skip))
       (.both (.draw 1 [⟨0, .pure, 0, ⟨(some 66), none, .plain (.mov (.tmp 7))⟩, [], []⟩,
          ⟨1, .pure, 0, ⟨(some 67), none, .plain (.mov (.tmp 7))⟩, [], []⟩,
          ⟨2, .pure, 0, ⟨(some 68), none, .plain (.nilCheck (.tmp 67))⟩, [], []⟩,
          ⟨3, .pure, 0, ⟨(some 69), none, .plain (.faddr 8 (.tmp 68))⟩, [], []⟩,
          ⟨4, .read, 0, ⟨(some 70), none, .plain (.load none (.tmp 69))⟩, [], []⟩,
          ⟨5, .read, 0, ⟨(some 71), none, .plain (.load (some 6) (.tmp 12))⟩, [], []⟩,
          ⟨6, .fresh, 0, ⟨(some 72), none, .plain (.buildSlice ⟨6, 48, [(.int .i64 0), (.int .i64 0), (.int .i64 0), (.int .i64 0), (.int .i64 0), (.int .i64 0)]⟩ 1 [(0, (.tmp 71))])⟩, [], []⟩,
          ⟨7, .chain, 0, ⟨(some 73), none, .plain (.append ⟨6, 48, [(.int .i64 0), (.int .i64 0), (.int .i64 0), (.int .i64 0), (.int .i64 0), (.int .i64 0)]⟩ false (.tmp 70) (.tmp 72))⟩, [], []⟩,
          ⟨8, .pure, 0, ⟨(some 74), none, .plain (.nilCheck (.tmp 66))⟩, [], []⟩,
          ⟨9, .pure, 0, ⟨(some 75), none, .plain (.faddr 8 (.tmp 74))⟩, [], []⟩,
          ⟨10, .chain, 0, ⟨none, none, .plain (.store 1 (.tmp 75) (.tmp 73))⟩, [], []⟩])
       (.both (.both (.seq [⟨(some 76), none, .plain (.mov (.tmp 7))⟩,
           ⟨(some 77), none, .plain (.mov (.tmp 11))⟩,
           ⟨(some 78), none, .call 65 [(.tmp 76), (.tmp 77)]⟩,
           ⟨(some 14), none, .plain (.mov (.tmp 78))⟩])
        (.both (.seq [⟨(some 79), none, .plain (.mov (.tmp 14))⟩,
           ⟨(some 80), none, .plain (.bin .neq (.tmp 79) (.const (.int .i64 0)))⟩])
        (.cond (.tmp 80)
         (.both (.seq [⟨(some 81), none, .plain (.mov (.tmp 14))⟩,
            ⟨(some 2), none, .plain (.mov (.const (.pointer none)))⟩,
            ⟨(some 3), none, .plain (.mov (.tmp 81))⟩])
         .ret)
         .skip)))
       (.seq [⟨(some 82), none, .plain (.mov (.tmp 9))⟩,
         ⟨(some 83), none, .plain (.faddr 3 (.tmp 12))⟩,
         ⟨(some 84), none, .plain (.load none (.tmp 83))⟩,
         ⟨(some 85), none, .plain (.bin .add (.tmp 82) (.tmp 84))⟩,
         ⟨(some 86), none, .plain (.mov (.tmp 10))⟩,
         ⟨(some 87), none, .plain (.faddr 4 (.tmp 12))⟩,
         ⟨(some 88), none, .plain (.load none (.tmp 87))⟩,
         ⟨(some 89), none, .plain (.bin .add (.tmp 86) (.tmp 88))⟩,
         ⟨(some 9), none, .plain (.mov (.tmp 85))⟩,
         ⟨(some 10), none, .plain (.mov (.tmp 89))⟩])))))))
     (.seq [⟨(some 90), none, .plain (.bin .add (.tmp 53) (.const (.int .i64 1)))⟩,
       ⟨(some 53), none, .plain (.mov (.tmp 90))⟩])))))))
  (.both (.both (.seq [⟨(some 91), none, .plain (.mov (.tmp 9))⟩,
      ⟨(some 92), none, .plain (.faddr 2 (.tmp 6))⟩,
      ⟨(some 93), none, .plain (.load none (.tmp 92))⟩,
      ⟨(some 94), none, .plain (.bin .neq (.tmp 91) (.tmp 93))⟩,
      ⟨(some 95), none, .plain (.mov (.tmp 94))⟩,
      ⟨(some 96), (some (95, false)), .plain (.mov (.tmp 10))⟩,
      ⟨(some 97), (some (95, false)), .plain (.faddr 3 (.tmp 6))⟩,
      ⟨(some 98), (some (95, false)), .plain (.load none (.tmp 97))⟩,
      ⟨(some 99), (some (95, false)), .plain (.bin .neq (.tmp 96) (.tmp 98))⟩,
      ⟨(some 100), none, .plain (.pick (.tmp 95) (.const (.bool true)) (.tmp 99))⟩])
   (.cond (.tmp 100)
    (.both (.seq [⟨(some 2), none, .plain (.mov (.const (.pointer none)))⟩,
       ⟨(some 3), none, .plain (.mov (.const (.int .i64 23)))⟩])
    .ret)
    .skip))
  (.both (.seq [⟨(some 101), none, .plain (.mov (.tmp 7))⟩,
     ⟨(some 2), none, .plain (.mov (.tmp 101))⟩,
     ⟨(some 3), none, .plain (.mov (.const (.int .i64 0)))⟩])
  .ret))))))))))))))⟩
/-- fettle/fettleref16.Made -/
def a33 : AFunc := ⟨2, [.tmp 4, .tmp 5],
  (.both (.seq [⟨(some 4), none, .plain (.mov (.const (.slice none 0 0)))⟩,
     ⟨(some 5), none, .plain (.mov (.const (.int .i64 0)))⟩])
  (.both (.both (.seq [⟨(some 13), none, .plain (.mov (.tmp 0))⟩,
      ⟨(some 14), none, .plain (.bin .lss (.tmp 13) (.const (.int .i64 16)))⟩,
      ⟨(some 15), none, .plain (.mov (.tmp 14))⟩,
      ⟨(some 16), (some (15, false)), .plain (.mov (.tmp 0))⟩,
      ⟨(some 17), (some (15, false)), .plain (.bin .gtr (.tmp 16) (.const (.int .i64 32768)))⟩,
      ⟨(some 18), none, .plain (.pick (.tmp 15) (.const (.bool true)) (.tmp 17))⟩,
      ⟨(some 19), none, .plain (.mov (.tmp 18))⟩,
      ⟨(some 20), (some (19, false)), .plain (.mov (.tmp 1))⟩,
      ⟨(some 21), (some (19, false)), .plain (.bin .lss (.tmp 20) (.const (.int .i64 1)))⟩,
      ⟨(some 22), none, .plain (.pick (.tmp 19) (.const (.bool true)) (.tmp 21))⟩,
      ⟨(some 23), none, .plain (.mov (.tmp 22))⟩,
      ⟨(some 24), (some (23, false)), .plain (.mov (.tmp 1))⟩,
      ⟨(some 25), (some (23, false)), .plain (.bin .gtr (.tmp 24) (.const (.int .i64 8)))⟩,
      ⟨(some 26), none, .plain (.pick (.tmp 23) (.const (.bool true)) (.tmp 25))⟩])
   (.cond (.tmp 26)
    (.both (.seq [⟨(some 4), none, .plain (.mov (.const (.slice none 0 0)))⟩,
       ⟨(some 5), none, .plain (.mov (.const (.int .i64 4)))⟩])
    .ret)
    .skip))
  (.both (.seq [⟨(some 27), none, .plain (.mov (.tmp 0))⟩,
     ⟨(some 28), none, .plain (.mov (.tmp 1))⟩,
     ⟨(some 29), none, .plain (.bin .quo (.tmp 27) (.tmp 28))⟩,
     ⟨(some 30), none, .plain (.bin .add (.tmp 29) (.const (.int .i64 2)))⟩,
     ⟨(some 6), none, .plain (.mov (.tmp 30))⟩])
  (.both (.seq [⟨(some 31), none, .plain (.mov (.tmp 6))⟩,
     ⟨(some 32), none, .plain (.bin .quo (.tmp 31) (.const (.int .i64 128)))⟩,
     ⟨(some 7), none, .plain (.mov (.tmp 32))⟩])
  (.both (.both (.seq [⟨(some 33), none, .plain (.mov (.tmp 6))⟩,
      ⟨(some 34), none, .plain (.bin .rem (.tmp 33) (.const (.int .i64 128)))⟩,
      ⟨(some 35), none, .plain (.bin .gtr (.tmp 34) (.const (.int .i64 0)))⟩])
   (.cond (.tmp 35)
    (.seq [⟨(some 36), none, .plain (.mov (.tmp 7))⟩,
      ⟨(some 37), none, .plain (.bin .add (.tmp 36) (.const (.int .i64 1)))⟩,
      ⟨(some 7), none, .plain (.mov (.tmp 37))⟩])
    .skip))
  (.both (.seq [⟨(some 38), none, .plain (.mov (.tmp 1))⟩,
     ⟨(some 39), none, .plain (.mov (.tmp 0))⟩,
     ⟨(some 40), none, .plain (.mov (.tmp 7))⟩,
     ⟨(some 41), none, .plain (.build (.str [(.int .i64 0), (.int .i64 0), (.int .i64 0), (.int .i64 0), (.int .i64 0), (.int .i64 0), (.int .i64 0), (.int .i64 0)] [(0, 1), (1, 1), (2, 1), (3, 1), (4, 1), (5, 1), (6, 1), (7, 1)]) [(0, (.tmp 38)), (1, (.const (.int .i64 4))), (2, (.const (.int .i64 2))), (3, (.tmp 39)), (4, (.tmp 40)), (5, (.const (.int .i64 2))), (6, (.const (.int .i64 1))), (7, (.const (.int .i64 2)))])⟩,
     ⟨(some 8), none, .plain (.alloc [(.int .i64 0), (.int .i64 0), (.int .i64 0), (.int .i64 0), (.int .i64 0), (.int .i64 0), (.int .i64 0), (.int .i64 0)])⟩,
     ⟨none, none, .plain (.store 8 (.tmp 8) (.tmp 41))⟩])
  (.both (.both (.seq [⟨(some 42), none, .plain (.load (some 8) (.tmp 8))⟩,
      ⟨(some 43), none, .call 73 [(.tmp 42)]⟩,
      ⟨(some 9), none, .plain (.mov (.tmp 43))⟩])
   (.both (.seq [⟨(some 44), none, .plain (.mov (.tmp 9))⟩,
      ⟨(some 45), none, .plain (.bin .neq (.tmp 44) (.const (.int .i64 0)))⟩])
   (.cond (.tmp 45)
    (.both (.seq [⟨(some 46), none, .plain (.mov (.tmp 9))⟩,
       ⟨(some 4), none, .plain (.mov (.const (.slice none 0 0)))⟩,
       ⟨(some 5), none, .plain (.mov (.tmp 46))⟩])
    .ret)
    .skip)))
  (.both (.seq [⟨(some 47), none, .plain (.mov (.tmp 0))⟩,
     ⟨(some 48), none, .plain (.bin .mul (.const (.int .i64 512)) (.tmp 47))⟩,
     ⟨(some 49), none, .call 74 [(.tmp 48)]⟩,
     ⟨(some 10), none, .plain (.mov (.tmp 49))⟩])
  (.both (.draw 0 [⟨0, .read, 0, ⟨(some 50), none, .plain (.load (some 8) (.tmp 8))⟩, [], []⟩,
     ⟨1, .chain, 0, ⟨(some 51), none, .call 74 [(.const (.int .i64 512))]⟩, [0], []⟩,
     ⟨2, .chain, 0, ⟨(some 52), none, .call 75 [(.tmp 50), (.tmp 51)]⟩, [], []⟩,
     ⟨3, .pure, 0, ⟨(some 11), none, .plain (.mov (.tmp 52))⟩, [], []⟩])
  (.both (.seq [⟨(some 53), none, .plain (.mov (.tmp 10))⟩,
     ⟨(some 54), none, .plain (.mov (.tmp 11))⟩,
     ⟨(some 55), none, .call 76 [(.tmp 53), (.const (.int .i64 0)), (.tmp 54)]⟩,
     ⟨(some 10), none, .plain (.mov (.tmp 55))⟩])
  (.both (.seq [⟨(some 56), none, .plain (.mov (.tmp 10))⟩,
     ⟨(some 57), none, .plain (.load (some 8) (.tmp 8))⟩,
     ⟨(some 58), none, .call 78 [(.tmp 57)]⟩,
     ⟨(some 59), none, .plain (.bin .sub (.tmp 58) (.const (.int .i64 1)))⟩,
     ⟨(some 60), none, .call 77 [(.tmp 59), (.const (.int .i64 3))]⟩,
     ⟨(some 61), none, .call 76 [(.tmp 56), (.const (.int .i64 512)), (.tmp 60)]⟩,
     ⟨(some 10), none, .plain (.mov (.tmp 61))⟩])
  (.both (.seq [⟨(some 62), none, .plain (.mov (.tmp 10))⟩,
     ⟨(some 63), none, .plain (.mov (.tmp 11))⟩,
     ⟨(some 64), none, .call 76 [(.tmp 62), (.const (.int .i64 1024)), (.tmp 63)]⟩,
     ⟨(some 10), none, .plain (.mov (.tmp 64))⟩])
  (.both (.seq [⟨(some 65), none, .call 79 [(.const (.int .u64 268435448)), (.const (.int .i64 4))]⟩,
     ⟨(some 12), none, .plain (.mov (.tmp 65))⟩])
  (.both (.seq [⟨(some 66), none, .plain (.mov (.tmp 12))⟩,
     ⟨(some 67), none, .call 79 [(.const (.int .u64 268435455)), (.const (.int .i64 4))]⟩,
     ⟨(some 68), none, .plain (.append ⟨1, 1, [(.int .u8 0)]⟩ false (.tmp 66) (.tmp 67))⟩,
     ⟨(some 12), none, .plain (.mov (.tmp 68))⟩])
  (.both (.seq [⟨(some 69), none, .plain (.mov (.tmp 12))⟩,
     ⟨(some 70), none, .call 79 [(.const (.int .u64 268435455)), (.const (.int .i64 4))]⟩,
     ⟨(some 71), none, .plain (.append ⟨1, 1, [(.int .u8 0)]⟩ false (.tmp 69) (.tmp 70))⟩,
     ⟨(some 12), none, .plain (.mov (.tmp 71))⟩])
  (.both (.seq [⟨(some 72), none, .plain (.mov (.tmp 10))⟩,
     ⟨(some 73), none, .plain (.mov (.tmp 12))⟩,
     ⟨(some 74), none, .call 76 [(.tmp 72), (.const (.int .i64 2048)), (.tmp 73)]⟩,
     ⟨(some 10), none, .plain (.mov (.tmp 74))⟩])
  (.both (.seq [⟨(some 75), none, .plain (.mov (.tmp 10))⟩,
     ⟨(some 76), none, .plain (.mov (.tmp 7))⟩,
     ⟨(some 77), none, .plain (.bin .mul (.const (.int .i64 512)) (.tmp 76))⟩,
     ⟨(some 78), none, .plain (.bin .add (.const (.int .i64 2048)) (.tmp 77))⟩,
     ⟨(some 79), none, .plain (.mov (.tmp 12))⟩,
     ⟨(some 80), none, .call 76 [(.tmp 75), (.tmp 78), (.tmp 79)]⟩,
     ⟨(some 4), none, .plain (.mov (.tmp 80))⟩,
     ⟨(some 5), none, .plain (.mov (.const (.int .i64 0)))⟩])
  .ret)))))))))))))))))⟩
/-- fettle/fettlelaw20.laid -/
def a34 : AFunc := ⟨2, [.tmp 4, .tmp 5],
  (.both (.seq [⟨(some 4), none, .plain (.mov (.const (.slice none 0 0)))⟩,
     ⟨(some 5), none, .plain (.mov (.const (.bool false)))⟩])
  (.both (.both (.seq [⟨(some 6), none, .plain (.mov (.const (.int .i64 0)))⟩])
   (.block 0 (.loop (.both (.both (.seq [⟨(some 7), none, .plain (.mov (.tmp 6))⟩,
         ⟨(some 8), none, .plain (.mov (.tmp 1))⟩,
         ⟨(some 9), none, .plain (.len .sl (.tmp 8))⟩,
         ⟨(some 10), none, .plain (.bin .lss (.tmp 7) (.tmp 9))⟩])
      (.cond (.tmp 10)
       .skip
       (.exit 0)))
     (.both (.block 1 (.both (.both (.seq [⟨(some 13), none, .plain (.mov (.tmp 1))⟩,
           ⟨(some 14), none, .plain (.mov (.tmp 6))⟩,
           ⟨(some 15), none, .plain (.iaddr none 2 (.tmp 13) (.tmp 14))⟩,
           ⟨(some 16), none, .plain (.faddr 0 (.tmp 15))⟩,
           ⟨(some 17), none, .plain (.load none (.tmp 16))⟩,
           ⟨(some 18), none, .plain (.bin .lss (.tmp 17) (.const (.int .i64 0)))⟩,
           ⟨(some 19), none, .plain (.mov (.tmp 18))⟩,
           ⟨(some 20), (some (19, false)), .plain (.mov (.tmp 1))⟩,
           ⟨(some 21), (some (19, false)), .plain (.mov (.tmp 6))⟩,
           ⟨(some 22), (some (19, false)), .plain (.iaddr none 2 (.tmp 20) (.tmp 21))⟩,
           ⟨(some 23), (some (19, false)), .plain (.faddr 0 (.tmp 22))⟩,
           ⟨(some 24), (some (19, false)), .plain (.load none (.tmp 23))⟩,
           ⟨(some 25), (some (19, false)), .plain (.mov (.tmp 0))⟩,
           ⟨(some 26), (some (19, false)), .plain (.len .sl (.tmp 25))⟩,
           ⟨(some 27), (some (19, false)), .plain (.mov (.tmp 1))⟩,
           ⟨(some 28), (some (19, false)), .plain (.mov (.tmp 6))⟩,
           ⟨(some 29), (some (19, false)), .plain (.iaddr none 2 (.tmp 27) (.tmp 28))⟩,
           ⟨(some 30), (some (19, false)), .plain (.faddr 1 (.tmp 29))⟩,
           ⟨(some 31), (some (19, false)), .plain (.load none (.tmp 30))⟩,
           ⟨(some 32), (some (19, false)), .plain (.len .sl (.tmp 31))⟩,
           ⟨(some 33), (some (19, false)), .plain (.bin .sub (.tmp 26) (.tmp 32))⟩,
           ⟨(some 34), (some (19, false)), .plain (.bin .gtr (.tmp 24) (.tmp 33))⟩,
           ⟨(some 35), none, .plain (.pick (.tmp 19) (.const (.bool true)) (.tmp 34))⟩])
        (.cond (.tmp 35)
         (.both (.seq [⟨(some 4), none, .plain (.mov (.const (.slice none 0 0)))⟩,
            ⟨(some 5), none, .plain (.mov (.const (.bool false)))⟩])
         .ret)
         .skip))
       (.draw 0 [⟨0, .pure, 0, ⟨(some 36), none, .plain (.mov (.tmp 0))⟩, [], []⟩,
         ⟨1, .pure, 0, ⟨(some 37), none, .plain (.mov (.tmp 1))⟩, [], []⟩,
         ⟨2, .pure, 0, ⟨(some 38), none, .plain (.mov (.tmp 6))⟩, [], []⟩,
         ⟨3, .pure, 0, ⟨(some 39), none, .plain (.iaddr none 2 (.tmp 37) (.tmp 38))⟩, [], []⟩,
         ⟨4, .pure, 0, ⟨(some 40), none, .plain (.faddr 0 (.tmp 39))⟩, [], []⟩,
         ⟨5, .read, 0, ⟨(some 41), none, .plain (.load none (.tmp 40))⟩, [], []⟩,
         ⟨6, .pure, 0, ⟨(some 42), none, .plain (.mov (.tmp 1))⟩, [], []⟩,
         ⟨7, .pure, 0, ⟨(some 43), none, .plain (.mov (.tmp 6))⟩, [], []⟩,
         ⟨8, .pure, 0, ⟨(some 44), none, .plain (.iaddr none 2 (.tmp 42) (.tmp 43))⟩, [], []⟩,
         ⟨9, .pure, 0, ⟨(some 45), none, .plain (.faddr 1 (.tmp 44))⟩, [], []⟩,
         ⟨10, .read, 0, ⟨(some 46), none, .plain (.load none (.tmp 45))⟩, [], []⟩,
         ⟨11, .chain, 0, ⟨(some 47), none, .call 76 [(.tmp 36), (.tmp 41), (.tmp 46)]⟩, [], []⟩,
         ⟨12, .pure, 0, ⟨(some 0), none, .plain (.mov (.tmp 47))⟩, [], []⟩])))
     (.seq [⟨(some 11), none, .plain (.mov (.tmp 6))⟩,
       ⟨(some 12), none, .plain (.bin .add (.tmp 11) (.const (.int .i64 1)))⟩,
       ⟨(some 6), none, .plain (.mov (.tmp 12))⟩]))))))
  (.both (.seq [⟨(some 48), none, .plain (.mov (.tmp 0))⟩,
     ⟨(some 4), none, .plain (.mov (.tmp 48))⟩,
     ⟨(some 5), none, .plain (.mov (.const (.bool true)))⟩])
  .ret)))⟩
/-- fettle/fettleref16.Open -/
def a35 : AFunc := ⟨1, [.cell 2 (some 12)],
  (.both (.seq [⟨(some 2), none, .plain (.alloc [(.int .i64 0), (.int .i64 0), (.int .i64 0), (.int .i64 0), (.int .i64 0), (.int .i64 0), (.int .i64 0), (.int .i64 0), (.slice none 0 0), (.int .i64 0), (.int .i64 0), (.int .i64 0)])⟩])
  (.both (.both (.seq [⟨(some 10), none, .plain (.mov (.tmp 0))⟩,
      ⟨(some 11), none, .plain (.len .sl (.tmp 10))⟩,
      ⟨(some 12), none, .plain (.bin .lss (.tmp 11) (.const (.int .i64 512)))⟩])
   (.cond (.tmp 12)
    (.both (.seq [⟨(some 13), none, .plain (.build (.str [(.int .i64 0), (.int .i64 0), (.int .i64 0), (.int .i64 0), (.int .i64 0), (.int .i64 0), (.int .i64 0), (.int .i64 0), (.slice none 0 0), (.int .i64 0), (.int .i64 0), (.int .i64 0)] [(0, 8), (8, 1), (9, 1), (10, 1), (11, 1)]) [(4, (.const (.int .i64 4)))])⟩,
       ⟨none, none, .plain (.store 12 (.tmp 2) (.tmp 13))⟩])
    .ret)
    .skip))
  (.both (.seq [⟨(some 15), none, .plain (.mov (.tmp 0))⟩,
     ⟨(some 16), none, .plain (.cut (.sl 1) (.tmp 15) none (some (.const (.int .i64 512))) none)⟩,
     ⟨(some 17), none, .call 80 [(.tmp 16)]⟩,
     ⟨(some 14), none, .plain (.mov (.tmp 17))⟩,
     ⟨(some 18), none, .plain (.extract (.tmp 14) 0)⟩,
     ⟨(some 19), none, .plain (.extract (.tmp 14) 1)⟩,
     ⟨(some 3), none, .plain (.alloc [(.int .i64 0), (.int .i64 0), (.int .i64 0), (.int .i64 0), (.int .i64 0), (.int .i64 0), (.int .i64 0), (.int .i64 0)])⟩,
     ⟨none, none, .plain (.store 8 (.tmp 3) (.tmp 18))⟩,
     ⟨(some 4), none, .plain (.mov (.tmp 19))⟩])
  (.both (.both (.seq [⟨(some 20), none, .plain (.mov (.tmp 4))⟩,
      ⟨(some 21), none, .plain (.bin .neq (.tmp 20) (.const (.int .i64 0)))⟩])
   (.cond (.tmp 21)
    (.both (.seq [⟨(some 22), none, .plain (.mov (.tmp 4))⟩,
       ⟨(some 23), none, .plain (.build (.str [(.int .i64 0), (.int .i64 0), (.int .i64 0), (.int .i64 0), (.int .i64 0), (.int .i64 0), (.int .i64 0), (.int .i64 0), (.slice none 0 0), (.int .i64 0), (.int .i64 0), (.int .i64 0)] [(0, 8), (8, 1), (9, 1), (10, 1), (11, 1)]) [(4, (.tmp 22))])⟩,
       ⟨none, none, .plain (.store 12 (.tmp 2) (.tmp 23))⟩])
    .ret)
    .skip))
  (.both (.both (.seq [⟨(some 24), none, .plain (.faddr 3 (.tmp 3))⟩,
      ⟨(some 25), none, .plain (.load none (.tmp 24))⟩,
      ⟨(some 26), none, .plain (.mov (.tmp 0))⟩,
      ⟨(some 27), none, .plain (.len .sl (.tmp 26))⟩,
      ⟨(some 28), none, .plain (.bin .quo (.tmp 27) (.const (.int .i64 512)))⟩,
      ⟨(some 29), none, .plain (.bin .gtr (.tmp 25) (.tmp 28))⟩])
   (.cond (.tmp 29)
    (.both (.seq [⟨(some 30), none, .plain (.build (.str [(.int .i64 0), (.int .i64 0), (.int .i64 0), (.int .i64 0), (.int .i64 0), (.int .i64 0), (.int .i64 0), (.int .i64 0), (.slice none 0 0), (.int .i64 0), (.int .i64 0), (.int .i64 0)] [(0, 8), (8, 1), (9, 1), (10, 1), (11, 1)]) [(4, (.const (.int .i64 4)))])⟩,
       ⟨none, none, .plain (.store 12 (.tmp 2) (.tmp 30))⟩])
    .ret)
    .skip))
  (.both (.both (.draw 0 [⟨0, .pure, 0, ⟨(some 31), none, .plain (.faddr 7 (.tmp 3))⟩, [], []⟩,
      ⟨1, .read, 0, ⟨(some 32), none, .plain (.load none (.tmp 31))⟩, [], []⟩,
      ⟨2, .pure, 0, ⟨(some 33), none, .plain (.bin .neq (.tmp 32) (.const (.int .i64 0)))⟩, [], []⟩,
      ⟨3, .pure, 0, ⟨(some 34), none, .plain (.mov (.tmp 33))⟩, [], []⟩,
      ⟨4, .pure, 0, ⟨(some 35), (some (34, true)), .plain (.mov (.tmp 0))⟩, [], []⟩,
      ⟨5, .read, 0, ⟨(some 36), (some (34, true)), .plain (.cut (.sl 1) (.tmp 35) none (some (.const (.int .i64 512))) none)⟩, [], []⟩,
      ⟨6, .pure, 0, ⟨(some 37), (some (34, true)), .plain (.mov (.tmp 0))⟩, [], []⟩,
      ⟨7, .pure, 0, ⟨(some 38), (some (34, true)), .plain (.faddr 7 (.tmp 3))⟩, [], []⟩,
      ⟨8, .read, 0, ⟨(some 39), (some (34, true)), .plain (.load none (.tmp 38))⟩, [], []⟩,
      ⟨9, .pure, 0, ⟨(some 40), (some (34, true)), .plain (.bin .mul (.const (.int .i64 512)) (.tmp 39))⟩, [], []⟩,
      ⟨10, .pure, 0, ⟨(some 41), (some (34, true)), .plain (.faddr 7 (.tmp 3))⟩, [], []⟩,
      ⟨11, .read, 0, ⟨(some 42), (some (34, true)), .plain (.load none (.tmp 41))⟩, [], []⟩,
      ⟨12, .pure, 0, ⟨(some 43), (some (34, true)), .plain (.bin .mul (.const (.int .i64 512)) (.tmp 42))⟩, [], []⟩,
      ⟨13, .pure, 0, ⟨(some 44), (some (34, true)), .plain (.bin .add (.tmp 43) (.const (.int .i64 512)))⟩, [], []⟩,
      ⟨14, .read, 0, ⟨(some 45), (some (34, true)), .plain (.cut (.sl 1) (.tmp 37) (some (.tmp 40)) (some (.tmp 44)) none)⟩, [], []⟩,
      ⟨15, .chain, 0, ⟨(some 46), (some (34, true)), .call 81 [(.tmp 36), (.tmp 45)]⟩, [], []⟩,
      ⟨16, .pure, 0, ⟨(some 47), (some (34, true)), .plain (.un .not (.tmp 46))⟩, [], []⟩,
      ⟨17, .pure, 0, ⟨(some 48), none, .plain (.pick (.tmp 34) (.tmp 47) (.const (.bool false)))⟩, [], []⟩])
   (.cond (.tmp 48)
    (.both (.seq [⟨(some 49), none, .plain (.build (.str [(.int .i64 0), (.int .i64 0), (.int .i64 0), (.int .i64 0), (.int .i64 0), (.int .i64 0), (.int .i64 0), (.int .i64 0), (.slice none 0 0), (.int .i64 0), (.int .i64 0), (.int .i64 0)] [(0, 8), (8, 1), (9, 1), (10, 1), (11, 1)]) [(4, (.const (.int .i64 11)))])⟩,
       ⟨none, none, .plain (.store 12 (.tmp 2) (.tmp 49))⟩])
    .ret)
    .skip))
  (.both (.seq [⟨(some 50), none, .plain (.load (some 8) (.tmp 3))⟩,
     ⟨(some 51), none, .plain (.build (.str [(.int .i64 0), (.int .i64 0), (.int .i64 0), (.int .i64 0), (.int .i64 0), (.int .i64 0), (.int .i64 0), (.int .i64 0), (.slice none 0 0), (.int .i64 0), (.int .i64 0), (.int .i64 0)] [(0, 8), (8, 1), (9, 1), (10, 1), (11, 1)]) [(0, (.tmp 50))])⟩,
     ⟨(some 5), none, .plain (.alloc [(.int .i64 0), (.int .i64 0), (.int .i64 0), (.int .i64 0), (.int .i64 0), (.int .i64 0), (.int .i64 0), (.int .i64 0), (.slice none 0 0), (.int .i64 0), (.int .i64 0), (.int .i64 0)])⟩,
     ⟨none, none, .plain (.store 12 (.tmp 5) (.tmp 51))⟩])
  (.both (.seq [⟨(some 53), none, .plain (.mov (.tmp 0))⟩,
     ⟨(some 54), none, .plain (.faddr 6 (.tmp 3))⟩,
     ⟨(some 55), none, .plain (.load none (.tmp 54))⟩,
     ⟨(some 56), none, .plain (.bin .mul (.const (.int .i64 512)) (.tmp 55))⟩,
     ⟨(some 57), none, .plain (.faddr 6 (.tmp 3))⟩,
     ⟨(some 58), none, .plain (.load none (.tmp 57))⟩,
     ⟨(some 59), none, .plain (.bin .mul (.const (.int .i64 512)) (.tmp 58))⟩,
     ⟨(some 60), none, .plain (.bin .add (.tmp 59) (.const (.int .i64 512)))⟩,
     ⟨(some 61), none, .plain (.cut (.sl 1) (.tmp 53) (some (.tmp 56)) (some (.tmp 60)) none)⟩,
     ⟨(some 62), none, .call 82 [(.tmp 61)]⟩,
     ⟨(some 52), none, .plain (.mov (.tmp 62))⟩,
     ⟨(some 63), none, .plain (.extract (.tmp 52) 0)⟩,
     ⟨(some 64), none, .plain (.extract (.tmp 52) 1)⟩,
     ⟨(some 65), none, .plain (.extract (.tmp 52) 2)⟩,
     ⟨(some 66), none, .plain (.faddr 9 (.tmp 5))⟩,
     ⟨none, none, .plain (.store 1 (.tmp 66) (.tmp 63))⟩,
     ⟨(some 67), none, .plain (.faddr 10 (.tmp 5))⟩,
     ⟨none, none, .plain (.store 1 (.tmp 67) (.tmp 64))⟩,
     ⟨(some 4), none, .plain (.mov (.tmp 65))⟩])
  (.both (.both (.seq [⟨(some 68), none, .plain (.mov (.tmp 4))⟩,
      ⟨(some 69), none, .plain (.bin .neq (.tmp 68) (.const (.int .i64 0)))⟩])
   (.cond (.tmp 69)
    (.both (.seq [⟨(some 70), none, .plain (.mov (.tmp 4))⟩,
       ⟨(some 71), none, .plain (.build (.str [(.int .i64 0), (.int .i64 0), (.int .i64 0), (.int .i64 0), (.int .i64 0), (.int .i64 0), (.int .i64 0), (.int .i64 0), (.slice none 0 0), (.int .i64 0), (.int .i64 0), (.int .i64 0)] [(0, 8), (8, 1), (9, 1), (10, 1), (11, 1)]) [(4, (.tmp 70))])⟩,
       ⟨none, none, .plain (.store 12 (.tmp 2) (.tmp 71))⟩])
    .ret)
    .skip))
  (.both (.seq [⟨(some 72), none, .plain (.faddr 4 (.tmp 3))⟩,
     ⟨(some 73), none, .plain (.load none (.tmp 72))⟩,
     ⟨(some 74), none, .plain (.bin .mul (.const (.int .i64 512)) (.tmp 73))⟩,
     ⟨(some 6), none, .plain (.mov (.tmp 74))⟩])
  (.both (.seq [⟨(some 75), none, .plain (.faddr 1 (.tmp 3))⟩,
     ⟨(some 76), none, .plain (.load none (.tmp 75))⟩,
     ⟨(some 77), none, .plain (.bin .mul (.const (.int .i64 512)) (.tmp 76))⟩,
     ⟨(some 7), none, .plain (.mov (.tmp 77))⟩])
  (.both (.seq [⟨(some 78), none, .plain (.mov (.tmp 0))⟩,
     ⟨(some 79), none, .plain (.mov (.tmp 7))⟩,
     ⟨(some 80), none, .plain (.mov (.tmp 7))⟩,
     ⟨(some 81), none, .plain (.mov (.tmp 6))⟩,
     ⟨(some 82), none, .plain (.bin .add (.tmp 80) (.tmp 81))⟩,
     ⟨(some 83), none, .plain (.cut (.sl 1) (.tmp 78) (some (.tmp 79)) (some (.tmp 82)) none)⟩,
     ⟨(some 8), none, .plain (.mov (.tmp 83))⟩])
  (.both (.both (.seq [⟨(some 84), none, .plain (.faddr 2 (.tmp 3))⟩,
      ⟨(some 85), none, .plain (.load none (.tmp 84))⟩,
      ⟨(some 86), none, .plain (.bin .eql (.tmp 85) (.const (.int .i64 2)))⟩,
      ⟨(some 87), none, .plain (.mov (.tmp 86))⟩,
      ⟨(some 88), (some (87, true)), .plain (.mov (.tmp 8))⟩,
      ⟨(some 89), (some (87, true)), .plain (.mov (.tmp 0))⟩,
      ⟨(some 90), (some (87, true)), .plain (.mov (.tmp 7))⟩,
      ⟨(some 91), (some (87, true)), .plain (.mov (.tmp 6))⟩,
      ⟨(some 92), (some (87, true)), .plain (.bin .add (.tmp 90) (.tmp 91))⟩,
      ⟨(some 93), (some (87, true)), .plain (.mov (.tmp 7))⟩,
      ⟨(some 94), (some (87, true)), .plain (.mov (.tmp 6))⟩,
      ⟨(some 95), (some (87, true)), .plain (.bin .mul (.const (.int .i64 2)) (.tmp 94))⟩,
      ⟨(some 96), (some (87, true)), .plain (.bin .add (.tmp 93) (.tmp 95))⟩,
      ⟨(some 97), (some (87, true)), .plain (.cut (.sl 1) (.tmp 89) (some (.tmp 92)) (some (.tmp 96)) none)⟩,
      ⟨(some 98), (some (87, true)), .call 81 [(.tmp 88), (.tmp 97)]⟩,
      ⟨(some 99), (some (87, true)), .plain (.un .not (.tmp 98))⟩,
      ⟨(some 100), none, .plain (.pick (.tmp 87) (.tmp 99) (.const (.bool false)))⟩])
   (.cond (.tmp 100)
    (.both (.seq [⟨(some 101), none, .plain (.build (.str [(.int .i64 0), (.int .i64 0), (.int .i64 0), (.int .i64 0), (.int .i64 0), (.int .i64 0), (.int .i64 0), (.int .i64 0), (.slice none 0 0), (.int .i64 0), (.int .i64 0), (.int .i64 0)] [(0, 8), (8, 1), (9, 1), (10, 1), (11, 1)]) [(4, (.const (.int .i64 11)))])⟩,
       ⟨none, none, .plain (.store 12 (.tmp 2) (.tmp 101))⟩])
    .ret)
    .skip))
  (.both (.seq [⟨(some 102), none, .plain (.faddr 8 (.tmp 5))⟩,
     ⟨(some 103), none, .plain (.load none (.tmp 102))⟩,
     ⟨(some 104), none, .plain (.buildSlice ⟨1, 8, [(.int .i64 0)]⟩ 2 [(0, (.const (.int .i64 0))), (1, (.const (.int .i64 0)))])⟩,
     ⟨(some 105), none, .plain (.append ⟨1, 8, [(.int .i64 0)]⟩ false (.tmp 103) (.tmp 104))⟩,
     ⟨(some 106), none, .plain (.faddr 8 (.tmp 5))⟩,
     ⟨none, none, .plain (.store 1 (.tmp 106) (.tmp 105))⟩])
  (.both (.both (.seq [⟨(some 9), none, .plain (.mov (.const (.int .i64 2)))⟩])
   (.block 0 (.loop (.both (.both (.seq [⟨(some 107), none, .plain (.mov (.tmp 9))⟩,
         ⟨(some 108), none, .plain (.load (some 8) (.tmp 3))⟩,
         ⟨(some 109), none, .call 78 [(.tmp 108)]⟩,
         ⟨(some 110), none, .plain (.bin .add (.tmp 109) (.const (.int .i64 2)))⟩,
         ⟨(some 111), none, .plain (.bin .lss (.tmp 107) (.tmp 110))⟩])
      (.cond (.tmp 111)
       .skip
       (.exit 0)))
     (.both (.block 1 (.draw 1 [⟨0, .pure, 0, ⟨(some 114), none, .plain (.faddr 8 (.tmp 5))⟩, [], []⟩,
         ⟨1, .read, 0, ⟨(some 115), none, .plain (.load none (.tmp 114))⟩, [], []⟩,
         ⟨2, .pure, 0, ⟨(some 116), none, .plain (.mov (.tmp 8))⟩, [], []⟩,
         ⟨3, .pure, 0, ⟨(some 117), none, .plain (.mov (.tmp 9))⟩, [], []⟩,
         ⟨4, .pure, 0, ⟨(some 118), none, .plain (.bin .mul (.const (.int .i64 4)) (.tmp 117))⟩, [], []⟩,
         ⟨5, .chain, 0, ⟨(some 119), none, .call 83 [(.tmp 116), (.tmp 118), (.const (.int .i64 4))]⟩, [1], [0]⟩,
         ⟨6, .pure, 0, ⟨(some 120), none, .plain (.bin .rem (.tmp 119) (.const (.int .i64 268435456)))⟩, [], []⟩,
         ⟨7, .fresh, 0, ⟨(some 121), none, .plain (.buildSlice ⟨1, 8, [(.int .i64 0)]⟩ 1 [(0, (.tmp 120))])⟩, [], []⟩,
         ⟨8, .chain, 0, ⟨(some 122), none, .plain (.append ⟨1, 8, [(.int .i64 0)]⟩ false (.tmp 115) (.tmp 121))⟩, [], []⟩,
         ⟨9, .pure, 0, ⟨(some 123), none, .plain (.faddr 8 (.tmp 5))⟩, [], []⟩,
         ⟨10, .chain, 0, ⟨none, none, .plain (.store 1 (.tmp 123) (.tmp 122))⟩, [], []⟩]))
     (.seq [⟨(some 112), none, .plain (.mov (.tmp 9))⟩,
       ⟨(some 113), none, .plain (.bin .add (.tmp 112) (.const (.int .i64 1)))⟩,
       ⟨(some 9), none, .plain (.mov (.tmp 113))⟩]))))))
  (.both (.both (.draw 0 [⟨0, .pure, 0, ⟨(some 124), none, .plain (.faddr 9 (.tmp 5))⟩, [], []⟩,
      ⟨1, .read, 0, ⟨(some 125), none, .plain (.load none (.tmp 124))⟩, [], []⟩,
      ⟨2, .pure, 0, ⟨(some 126), none, .plain (.bin .neq (.tmp 125) (.const (.int .i64 4294967295)))⟩, [], []⟩,
      ⟨3, .pure, 0, ⟨(some 127), none, .plain (.mov (.tmp 126))⟩, [], []⟩,
      ⟨4, .pure, 0, ⟨(some 128), (some (127, true)), .plain (.faddr 9 (.tmp 5))⟩, [], []⟩,
      ⟨5, .read, 0, ⟨(some 129), (some (127, true)), .plain (.load none (.tmp 128))⟩, [], []⟩,
      ⟨6, .pure, 0, ⟨(some 130), (some (127, true)), .plain (.faddr 8 (.tmp 5))⟩, [], []⟩,
      ⟨7, .read, 0, ⟨(some 131), (some (127, true)), .plain (.load none (.tmp 130))⟩, [], []⟩,
      ⟨8, .chain, 0, ⟨(some 132), (some (127, true)), .call 84 [(.tmp 131)]⟩, [5], []⟩,
      ⟨9, .pure, 0, ⟨(some 133), (some (127, true)), .plain (.bin .neq (.tmp 129) (.tmp 132))⟩, [], []⟩,
      ⟨10, .pure, 0, ⟨(some 134), none, .plain (.pick (.tmp 127) (.tmp 133) (.const (.bool false)))⟩, [], []⟩])
   (.cond (.tmp 134)
    (.both (.seq [⟨(some 135), none, .plain (.build (.str [(.int .i64 0), (.int .i64 0), (.int .i64 0), (.int .i64 0), (.int .i64 0), (.int .i64 0), (.int .i64 0), (.int .i64 0), (.slice none 0 0), (.int .i64 0), (.int .i64 0), (.int .i64 0)] [(0, 8), (8, 1), (9, 1), (10, 1), (11, 1)]) [(4, (.const (.int .i64 23)))])⟩,
       ⟨none, none, .plain (.store 12 (.tmp 2) (.tmp 135))⟩])
    .ret)
    .skip))
  (.both (.seq [⟨(some 136), none, .plain (.load (some 12) (.tmp 5))⟩,
     ⟨none, none, .plain (.store 12 (.tmp 2) (.tmp 136))⟩])
  .ret)))))))))))))))))⟩
/-- fettle/fat.Parse -/
def a55 : AFunc := ⟨1, [.cell 2 (some 8), .tmp 3],
  (.both (.seq [⟨(some 2), none, .plain (.alloc [(.int .i64 0), (.int .i64 0), (.int .i64 0), (.int .i64 0), (.int .i64 0), (.int .i64 0), (.int .i64 0), (.int .i64 0)])⟩,
     ⟨(some 3), none, .plain (.mov (.const (.int .i64 0)))⟩])
  (.both (.both (.seq [⟨(some 28), none, .plain (.mov (.tmp 0))⟩,
      ⟨(some 29), none, .plain (.len .sl (.tmp 28))⟩,
      ⟨(some 30), none, .plain (.bin .neq (.tmp 29) (.const (.int .i64 512)))⟩])
   (.cond (.tmp 30)
    (.both (.seq [⟨(some 31), none, .plain (.build (.str [(.int .i64 0), (.int .i64 0), (.int .i64 0), (.int .i64 0), (.int .i64 0), (.int .i64 0), (.int .i64 0), (.int .i64 0)] [(0, 1), (1, 1), (2, 1), (3, 1), (4, 1), (5, 1), (6, 1), (7, 1)]) [])⟩,
       ⟨none, none, .plain (.store 8 (.tmp 2) (.tmp 31))⟩,
       ⟨(some 3), none, .plain (.mov (.const (.int .i64 4)))⟩])
    .ret)
    .skip))
  (.both (.both (.seq [⟨(some 32), none, .plain (.mov (.tmp 0))⟩,
      ⟨(some 33), none, .plain (.iaddr none 1 (.tmp 32) (.const (.int .i64 510)))⟩,
      ⟨(some 34), none, .plain (.load none (.tmp 33))⟩,
      ⟨(some 35), none, .plain (.bin .neq (.tmp 34) (.const (.int .u8 85)))⟩,
      ⟨(some 36), none, .plain (.mov (.tmp 35))⟩,
      ⟨(some 37), (some (36, false)), .plain (.mov (.tmp 0))⟩,
      ⟨(some 38), (some (36, false)), .plain (.iaddr none 1 (.tmp 37) (.const (.int .i64 511)))⟩,
      ⟨(some 39), (some (36, false)), .plain (.load none (.tmp 38))⟩,
      ⟨(some 40), (some (36, false)), .plain (.bin .neq (.tmp 39) (.const (.int .u8 170)))⟩,
      ⟨(some 41), none, .plain (.pick (.tmp 36) (.const (.bool true)) (.tmp 40))⟩,
      ⟨(some 42), none, .plain (.mov (.tmp 41))⟩,
      ⟨(some 43), (some (42, false)), .plain (.mov (.tmp 0))⟩,
      ⟨(some 44), (some (42, false)), .plain (.cut (.sl 1) (.tmp 43) (some (.const (.int .i64 82))) (some (.const (.int .i64 90))) none)⟩,
      ⟨(some 45), (some (42, false)), .plain (.conv .b2s (.tmp 44))⟩,
      ⟨(some 46), (some (42, false)), .plain (.bin .neq (.tmp 45) (.const (.string ⟨#[70, 65, 84, 51, 50, 32, 32, 32]⟩)))⟩,
      ⟨(some 47), none, .plain (.pick (.tmp 42) (.const (.bool true)) (.tmp 46))⟩])
   (.cond (.tmp 47)
    (.both (.seq [⟨(some 48), none, .plain (.build (.str [(.int .i64 0), (.int .i64 0), (.int .i64 0), (.int .i64 0), (.int .i64 0), (.int .i64 0), (.int .i64 0), (.int .i64 0)] [(0, 1), (1, 1), (2, 1), (3, 1), (4, 1), (5, 1), (6, 1), (7, 1)]) [])⟩,
       ⟨none, none, .plain (.store 8 (.tmp 2) (.tmp 48))⟩,
       ⟨(some 3), none, .plain (.mov (.const (.int .i64 10)))⟩])
    .ret)
    .skip))
  (.both (.seq [⟨(some 50), none, .plain (.mov (.tmp 0))⟩,
     ⟨(some 51), none, .call 117 [(.tmp 50), (.const (.int .i64 11))]⟩,
     ⟨(some 49), none, .plain (.mov (.tmp 51))⟩,
     ⟨(some 52), none, .plain (.extract (.tmp 49) 0)⟩,
     ⟨(some 53), none, .plain (.extract (.tmp 49) 1)⟩,
     ⟨(some 4), none, .plain (.mov (.tmp 52))⟩,
     ⟨(some 5), none, .plain (.mov (.tmp 53))⟩])
  (.both (.seq [⟨(some 55), none, .plain (.mov (.tmp 0))⟩,
     ⟨(some 56), none, .call 117 [(.tmp 55), (.const (.int .i64 14))]⟩,
     ⟨(some 54), none, .plain (.mov (.tmp 56))⟩,
     ⟨(some 57), none, .plain (.extract (.tmp 54) 0)⟩,
     ⟨(some 58), none, .plain (.extract (.tmp 54) 1)⟩,
     ⟨(some 6), none, .plain (.mov (.tmp 57))⟩,
     ⟨(some 7), none, .plain (.mov (.tmp 58))⟩])
  (.both (.seq [⟨(some 60), none, .plain (.mov (.tmp 0))⟩,
     ⟨(some 61), none, .call 117 [(.tmp 60), (.const (.int .i64 17))]⟩,
     ⟨(some 59), none, .plain (.mov (.tmp 61))⟩,
     ⟨(some 62), none, .plain (.extract (.tmp 59) 0)⟩,
     ⟨(some 63), none, .plain (.extract (.tmp 59) 1)⟩,
     ⟨(some 8), none, .plain (.mov (.tmp 62))⟩,
     ⟨(some 9), none, .plain (.mov (.tmp 63))⟩])
  (.both (.seq [⟨(some 65), none, .plain (.mov (.tmp 0))⟩,
     ⟨(some 66), none, .call 117 [(.tmp 65), (.const (.int .i64 19))]⟩,
     ⟨(some 64), none, .plain (.mov (.tmp 66))⟩,
     ⟨(some 67), none, .plain (.extract (.tmp 64) 0)⟩,
     ⟨(some 68), none, .plain (.extract (.tmp 64) 1)⟩,
     ⟨(some 10), none, .plain (.mov (.tmp 67))⟩,
     ⟨(some 11), none, .plain (.mov (.tmp 68))⟩])
  (.both (.seq [⟨(some 70), none, .plain (.mov (.tmp 0))⟩,
     ⟨(some 71), none, .call 117 [(.tmp 70), (.const (.int .i64 22))]⟩,
     ⟨(some 69), none, .plain (.mov (.tmp 71))⟩,
     ⟨(some 72), none, .plain (.extract (.tmp 69) 0)⟩,
     ⟨(some 73), none, .plain (.extract (.tmp 69) 1)⟩,
     ⟨(some 12), none, .plain (.mov (.tmp 72))⟩,
     ⟨(some 13), none, .plain (.mov (.tmp 73))⟩])
  (.both (.seq [⟨(some 75), none, .plain (.mov (.tmp 0))⟩,
     ⟨(some 76), none, .call 116 [(.tmp 75), (.const (.int .i64 32))]⟩,
     ⟨(some 74), none, .plain (.mov (.tmp 76))⟩,
     ⟨(some 77), none, .plain (.extract (.tmp 74) 0)⟩,
     ⟨(some 78), none, .plain (.extract (.tmp 74) 1)⟩,
     ⟨(some 14), none, .plain (.mov (.tmp 77))⟩,
     ⟨(some 15), none, .plain (.mov (.tmp 78))⟩])
  (.both (.seq [⟨(some 80), none, .plain (.mov (.tmp 0))⟩,
     ⟨(some 81), none, .call 116 [(.tmp 80), (.const (.int .i64 36))]⟩,
     ⟨(some 79), none, .plain (.mov (.tmp 81))⟩,
     ⟨(some 82), none, .plain (.extract (.tmp 79) 0)⟩,
     ⟨(some 83), none, .plain (.extract (.tmp 79) 1)⟩,
     ⟨(some 16), none, .plain (.mov (.tmp 82))⟩,
     ⟨(some 17), none, .plain (.mov (.tmp 83))⟩])
  (.both (.seq [⟨(some 85), none, .plain (.mov (.tmp 0))⟩,
     ⟨(some 86), none, .call 116 [(.tmp 85), (.const (.int .i64 40))]⟩,
     ⟨(some 84), none, .plain (.mov (.tmp 86))⟩,
     ⟨(some 87), none, .plain (.extract (.tmp 84) 0)⟩,
     ⟨(some 88), none, .plain (.extract (.tmp 84) 1)⟩,
     ⟨(some 18), none, .plain (.mov (.tmp 87))⟩,
     ⟨(some 19), none, .plain (.mov (.tmp 88))⟩])
  (.both (.seq [⟨(some 90), none, .plain (.mov (.tmp 0))⟩,
     ⟨(some 91), none, .call 116 [(.tmp 90), (.const (.int .i64 44))]⟩,
     ⟨(some 89), none, .plain (.mov (.tmp 91))⟩,
     ⟨(some 92), none, .plain (.extract (.tmp 89) 0)⟩,
     ⟨(some 93), none, .plain (.extract (.tmp 89) 1)⟩,
     ⟨(some 20), none, .plain (.mov (.tmp 92))⟩,
     ⟨(some 21), none, .plain (.mov (.tmp 93))⟩])
  (.both (.seq [⟨(some 95), none, .plain (.mov (.tmp 0))⟩,
     ⟨(some 96), none, .call 117 [(.tmp 95), (.const (.int .i64 48))]⟩,
     ⟨(some 94), none, .plain (.mov (.tmp 96))⟩,
     ⟨(some 97), none, .plain (.extract (.tmp 94) 0)⟩,
     ⟨(some 98), none, .plain (.extract (.tmp 94) 1)⟩,
     ⟨(some 22), none, .plain (.mov (.tmp 97))⟩,
     ⟨(some 23), none, .plain (.mov (.tmp 98))⟩])
  (.both (.seq [⟨(some 100), none, .plain (.mov (.tmp 0))⟩,
     ⟨(some 101), none, .call 117 [(.tmp 100), (.const (.int .i64 50))]⟩,
     ⟨(some 99), none, .plain (.mov (.tmp 101))⟩,
     ⟨(some 102), none, .plain (.extract (.tmp 99) 0)⟩,
     ⟨(some 103), none, .plain (.extract (.tmp 99) 1)⟩,
     ⟨(some 24), none, .plain (.mov (.tmp 102))⟩,
     ⟨(some 25), none, .plain (.mov (.tmp 103))⟩])
  (.both (.both (.seq [⟨(some 104), none, .plain (.mov (.tmp 4))⟩,
      ⟨(some 105), none, .plain (.bin .neq (.tmp 104) (.const (.int .u16 512)))⟩,
      ⟨(some 106), none, .plain (.mov (.tmp 105))⟩,
      ⟨(some 107), (some (106, false)), .plain (.mov (.tmp 8))⟩,
      ⟨(some 108), (some (106, false)), .plain (.bin .neq (.tmp 107) (.const (.int .u16 0)))⟩,
      ⟨(some 109), none, .plain (.pick (.tmp 106) (.const (.bool true)) (.tmp 108))⟩,
      ⟨(some 110), none, .plain (.mov (.tmp 109))⟩,
      ⟨(some 111), (some (110, false)), .plain (.mov (.tmp 10))⟩,
      ⟨(some 112), (some (110, false)), .plain (.bin .neq (.tmp 111) (.const (.int .u16 0)))⟩,
      ⟨(some 113), none, .plain (.pick (.tmp 110) (.const (.bool true)) (.tmp 112))⟩,
      ⟨(some 114), none, .plain (.mov (.tmp 113))⟩,
      ⟨(some 115), (some (114, false)), .plain (.mov (.tmp 12))⟩,
      ⟨(some 116), (some (114, false)), .plain (.bin .neq (.tmp 115) (.const (.int .u16 0)))⟩,
      ⟨(some 117), none, .plain (.pick (.tmp 114) (.const (.bool true)) (.tmp 116))⟩,
      ⟨(some 118), none, .plain (.mov (.tmp 117))⟩,
      ⟨(some 119), (some (118, false)), .plain (.mov (.tmp 18))⟩,
      ⟨(some 120), (some (118, false)), .plain (.bin .neq (.tmp 119) (.const (.int .u32 0)))⟩,
      ⟨(some 121), none, .plain (.pick (.tmp 118) (.const (.bool true)) (.tmp 120))⟩])
   (.cond (.tmp 121)
    (.both (.seq [⟨(some 122), none, .plain (.build (.str [(.int .i64 0), (.int .i64 0), (.int .i64 0), (.int .i64 0), (.int .i64 0), (.int .i64 0), (.int .i64 0), (.int .i64 0)] [(0, 1), (1, 1), (2, 1), (3, 1), (4, 1), (5, 1), (6, 1), (7, 1)]) [])⟩,
       ⟨none, none, .plain (.store 8 (.tmp 2) (.tmp 122))⟩,
       ⟨(some 3), none, .plain (.mov (.const (.int .i64 11)))⟩])
    .ret)
    .skip))
  (.both (.draw 1 [⟨0, .pure, 0, ⟨(some 123), none, .plain (.mov (.tmp 0))⟩, [], []⟩,
     ⟨1, .pure, 0, ⟨(some 124), none, .plain (.iaddr none 1 (.tmp 123) (.const (.int .i64 13)))⟩, [], []⟩,
     ⟨2, .read, 0, ⟨(some 125), none, .plain (.load none (.tmp 124))⟩, [], []⟩,
     ⟨3, .pure, 0, ⟨(some 126), none, .plain (.conv (.int .i64) (.tmp 125))⟩, [], []⟩,
     ⟨4, .pure, 0, ⟨(some 127), none, .plain (.mov (.tmp 6))⟩, [], []⟩,
     ⟨5, .pure, 0, ⟨(some 128), none, .plain (.conv (.int .i64) (.tmp 127))⟩, [], []⟩,
     ⟨6, .pure, 0, ⟨(some 129), none, .plain (.mov (.tmp 0))⟩, [], []⟩,
     ⟨7, .pure, 0, ⟨(some 130), none, .plain (.iaddr none 1 (.tmp 129) (.const (.int .i64 16)))⟩, [], []⟩,
     ⟨8, .read, 0, ⟨(some 131), none, .plain (.load none (.tmp 130))⟩, [], []⟩,
     ⟨9, .pure, 0, ⟨(some 132), none, .plain (.conv (.int .i64) (.tmp 131))⟩, [], []⟩,
     ⟨10, .pure, 0, ⟨(some 133), none, .plain (.mov (.tmp 14))⟩, [], []⟩,
     ⟨11, .pure, 0, ⟨(some 134), none, .plain (.conv (.int .i64) (.tmp 133))⟩, [], []⟩,
     ⟨12, .pure, 0, ⟨(some 135), none, .plain (.mov (.tmp 16))⟩, [], []⟩,
     ⟨13, .pure, 0, ⟨(some 136), none, .plain (.conv (.int .i64) (.tmp 135))⟩, [], []⟩,
     ⟨14, .pure, 0, ⟨(some 137), none, .plain (.mov (.tmp 20))⟩, [], []⟩,
     ⟨15, .pure, 0, ⟨(some 138), none, .plain (.conv (.int .i64) (.tmp 137))⟩, [], []⟩,
     ⟨16, .pure, 0, ⟨(some 139), none, .plain (.mov (.tmp 22))⟩, [], []⟩,
     ⟨17, .pure, 0, ⟨(some 140), none, .plain (.conv (.int .i64) (.tmp 139))⟩, [], []⟩,
     ⟨18, .pure, 0, ⟨(some 141), none, .plain (.mov (.tmp 24))⟩, [], []⟩,
     ⟨19, .pure, 0, ⟨(some 142), none, .plain (.conv (.int .i64) (.tmp 141))⟩, [], []⟩,
     ⟨20, .pure, 0, ⟨(some 143), none, .plain (.build (.str [(.int .i64 0), (.int .i64 0), (.int .i64 0), (.int .i64 0), (.int .i64 0), (.int .i64 0), (.int .i64 0), (.int .i64 0)] [(0, 1), (1, 1), (2, 1), (3, 1), (4, 1), (5, 1), (6, 1), (7, 1)]) [(0, (.tmp 126)), (1, (.tmp 128)), (2, (.tmp 132)), (3, (.tmp 134)), (4, (.tmp 136)), (5, (.tmp 138)), (6, (.tmp 140)), (7, (.tmp 142))])⟩, [], []⟩,
     ⟨21, .fresh, 0, ⟨(some 26), none, .plain (.alloc [(.int .i64 0), (.int .i64 0), (.int .i64 0), (.int .i64 0), (.int .i64 0), (.int .i64 0), (.int .i64 0), (.int .i64 0)])⟩, [], []⟩,
     ⟨22, .chain, 0, ⟨none, none, .plain (.store 8 (.tmp 26) (.tmp 143))⟩, [], []⟩])
  (.both (.both (.seq [⟨(some 144), none, .plain (.load (some 8) (.tmp 26))⟩,
      ⟨(some 145), none, .call 18 [(.tmp 144)]⟩,
      ⟨(some 27), none, .plain (.mov (.tmp 145))⟩])
   (.both (.seq [⟨(some 146), none, .plain (.mov (.tmp 27))⟩,
      ⟨(some 147), none, .plain (.bin .neq (.tmp 146) (.const (.int .i64 0)))⟩])
   (.cond (.tmp 147)
    (.both (.seq [⟨(some 148), none, .plain (.build (.str [(.int .i64 0), (.int .i64 0), (.int .i64 0), (.int .i64 0), (.int .i64 0), (.int .i64 0), (.int .i64 0), (.int .i64 0)] [(0, 1), (1, 1), (2, 1), (3, 1), (4, 1), (5, 1), (6, 1), (7, 1)]) [])⟩,
       ⟨(some 149), none, .plain (.mov (.tmp 27))⟩,
       ⟨none, none, .plain (.store 8 (.tmp 2) (.tmp 148))⟩,
       ⟨(some 3), none, .plain (.mov (.tmp 149))⟩])
    .ret)
    .skip)))
  (.both (.seq [⟨(some 150), none, .plain (.load (some 8) (.tmp 26))⟩,
     ⟨none, none, .plain (.store 8 (.tmp 2) (.tmp 150))⟩,
     ⟨(some 3), none, .plain (.mov (.const (.int .i64 0)))⟩])
  .ret))))))))))))))))))⟩
/-- fettle/fat.ParseCounts -/
def a56 : AFunc := ⟨1, [.cell 2 (some 2), .tmp 3],
  (.both (.seq [⟨(some 2), none, .plain (.alloc [(.int .i64 0), (.int .i64 0)])⟩,
     ⟨(some 3), none, .plain (.mov (.const (.int .i64 0)))⟩])
  (.both (.seq [⟨(some 15), none, .plain (.mov (.tmp 0))⟩,
     ⟨(some 16), none, .call 116 [(.tmp 15), (.const (.int .i64 0))]⟩,
     ⟨(some 14), none, .plain (.mov (.tmp 16))⟩,
     ⟨(some 17), none, .plain (.extract (.tmp 14) 0)⟩,
     ⟨(some 18), none, .plain (.extract (.tmp 14) 1)⟩,
     ⟨(some 4), none, .plain (.mov (.tmp 17))⟩,
     ⟨(some 5), none, .plain (.mov (.tmp 18))⟩])
  (.both (.seq [⟨(some 20), none, .plain (.mov (.tmp 0))⟩,
     ⟨(some 21), none, .call 116 [(.tmp 20), (.const (.int .i64 484))]⟩,
     ⟨(some 19), none, .plain (.mov (.tmp 21))⟩,
     ⟨(some 22), none, .plain (.extract (.tmp 19) 0)⟩,
     ⟨(some 23), none, .plain (.extract (.tmp 19) 1)⟩,
     ⟨(some 6), none, .plain (.mov (.tmp 22))⟩,
     ⟨(some 7), none, .plain (.mov (.tmp 23))⟩])
  (.both (.seq [⟨(some 25), none, .plain (.mov (.tmp 0))⟩,
     ⟨(some 26), none, .call 116 [(.tmp 25), (.const (.int .i64 508))]⟩,
     ⟨(some 24), none, .plain (.mov (.tmp 26))⟩,
     ⟨(some 27), none, .plain (.extract (.tmp 24) 0)⟩,
     ⟨(some 28), none, .plain (.extract (.tmp 24) 1)⟩,
     ⟨(some 8), none, .plain (.mov (.tmp 27))⟩,
     ⟨(some 9), none, .plain (.mov (.tmp 28))⟩])
  (.both (.block 0 (.both (.seq [⟨(some 30), none, .plain (.mov (.tmp 9))⟩,
       ⟨(some 31), none, .plain (.un .not (.tmp 30))⟩,
       ⟨(some 32), none, .plain (.mov (.tmp 31))⟩,
       ⟨(some 33), (some (32, false)), .plain (.mov (.tmp 0))⟩,
       ⟨(some 34), (some (32, false)), .plain (.len .sl (.tmp 33))⟩,
       ⟨(some 35), (some (32, false)), .plain (.bin .neq (.tmp 34) (.const (.int .i64 512)))⟩,
       ⟨(some 36), none, .plain (.pick (.tmp 32) (.const (.bool true)) (.tmp 35))⟩,
       ⟨(some 29), none, .plain (.mov (.tmp 36))⟩])
    (.cond (.tmp 29)
     (.both (.seq [⟨(some 37), none, .plain (.build (.str [(.int .i64 0), (.int .i64 0)] [(0, 1), (1, 1)]) [])⟩,
        ⟨none, none, .plain (.store 2 (.tmp 2) (.tmp 37))⟩,
        ⟨(some 3), none, .plain (.mov (.const (.int .i64 4)))⟩])
     .ret)
     (.both (.seq [⟨(some 39), none, .plain (.mov (.tmp 4))⟩,
        ⟨(some 40), none, .plain (.bin .neq (.tmp 39) (.const (.int .u32 1096897106)))⟩,
        ⟨(some 41), none, .plain (.mov (.tmp 40))⟩,
        ⟨(some 42), (some (41, false)), .plain (.mov (.tmp 6))⟩,
        ⟨(some 43), (some (41, false)), .plain (.bin .neq (.tmp 42) (.const (.int .u32 1631679090)))⟩,
        ⟨(some 44), none, .plain (.pick (.tmp 41) (.const (.bool true)) (.tmp 43))⟩,
        ⟨(some 45), none, .plain (.mov (.tmp 44))⟩,
        ⟨(some 46), (some (45, false)), .plain (.mov (.tmp 8))⟩,
        ⟨(some 47), (some (45, false)), .plain (.bin .neq (.tmp 46) (.const (.int .u32 2857697280)))⟩,
        ⟨(some 48), none, .plain (.pick (.tmp 45) (.const (.bool true)) (.tmp 47))⟩,
        ⟨(some 38), none, .plain (.mov (.tmp 48))⟩])
     (.cond (.tmp 38)
      (.both (.seq [⟨(some 49), none, .plain (.build (.str [(.int .i64 0), (.int .i64 0)] [(0, 1), (1, 1)]) [])⟩,
         ⟨none, none, .plain (.store 2 (.tmp 2) (.tmp 49))⟩,
         ⟨(some 3), none, .plain (.mov (.const (.int .i64 10)))⟩])
      .ret)
      .skip)))))
  (.both (.seq [⟨(some 51), none, .plain (.mov (.tmp 0))⟩,
     ⟨(some 52), none, .call 116 [(.tmp 51), (.const (.int .i64 488))]⟩,
     ⟨(some 50), none, .plain (.mov (.tmp 52))⟩,
     ⟨(some 53), none, .plain (.extract (.tmp 50) 0)⟩,
     ⟨(some 54), none, .plain (.extract (.tmp 50) 1)⟩,
     ⟨(some 10), none, .plain (.mov (.tmp 53))⟩,
     ⟨(some 11), none, .plain (.mov (.tmp 54))⟩])
  (.both (.seq [⟨(some 56), none, .plain (.mov (.tmp 0))⟩,
     ⟨(some 57), none, .call 116 [(.tmp 56), (.const (.int .i64 492))]⟩,
     ⟨(some 55), none, .plain (.mov (.tmp 57))⟩,
     ⟨(some 58), none, .plain (.extract (.tmp 55) 0)⟩,
     ⟨(some 59), none, .plain (.extract (.tmp 55) 1)⟩,
     ⟨(some 12), none, .plain (.mov (.tmp 58))⟩,
     ⟨(some 13), none, .plain (.mov (.tmp 59))⟩])
  (.both (.seq [⟨(some 60), none, .plain (.mov (.tmp 10))⟩,
     ⟨(some 61), none, .plain (.conv (.int .i64) (.tmp 60))⟩,
     ⟨(some 62), none, .plain (.mov (.tmp 12))⟩,
     ⟨(some 63), none, .plain (.conv (.int .i64) (.tmp 62))⟩,
     ⟨(some 64), none, .plain (.build (.str [(.int .i64 0), (.int .i64 0)] [(0, 1), (1, 1)]) [(0, (.tmp 61)), (1, (.tmp 63))])⟩,
     ⟨none, none, .plain (.store 2 (.tmp 2) (.tmp 64))⟩,
     ⟨(some 3), none, .plain (.mov (.const (.int .i64 0)))⟩])
  .ret))))))))⟩
/-- (*fettle/fat.Volume).table -/
def a57 : AFunc := ⟨2, [.tmp 4],
  (.both (.seq [⟨(some 4), none, .plain (.mov (.const (.int .i64 0)))⟩])
  (.both (.seq [⟨(some 13), none, .plain (.mov (.tmp 0))⟩,
     ⟨(some 14), none, .plain (.nilCheck (.tmp 13))⟩,
     ⟨(some 15), none, .plain (.faddr 0 (.tmp 14))⟩,
     ⟨(some 16), none, .plain (.faddr 4 (.tmp 15))⟩,
     ⟨(some 17), none, .plain (.load none (.tmp 16))⟩,
     ⟨(some 18), none, .plain (.bin .mul (.tmp 17) (.const (.int .i64 512)))⟩,
     ⟨(some 5), none, .plain (.mov (.tmp 18))⟩])
  (.both (.draw 0 [⟨0, .pure, 0, ⟨(some 20), none, .plain (.mov (.tmp 1))⟩, [], []⟩,
     ⟨1, .pure, 0, ⟨(some 21), none, .plain (.mov (.tmp 0))⟩, [], []⟩,
     ⟨2, .pure, 0, ⟨(some 22), none, .plain (.nilCheck (.tmp 21))⟩, [], []⟩,
     ⟨3, .pure, 0, ⟨(some 23), none, .plain (.faddr 0 (.tmp 22))⟩, [], []⟩,
     ⟨4, .pure, 0, ⟨(some 24), none, .plain (.faddr 1 (.tmp 23))⟩, [], []⟩,
     ⟨5, .read, 0, ⟨(some 25), none, .plain (.load none (.tmp 24))⟩, [], []⟩,
     ⟨6, .pure, 0, ⟨(some 26), none, .plain (.bin .mul (.tmp 25) (.const (.int .i64 512)))⟩, [], []⟩,
     ⟨7, .pure, 0, ⟨(some 27), none, .plain (.mov (.tmp 5))⟩, [], []⟩,
     ⟨8, .pure, 0, ⟨(some 28), none, .plain (.mkfunc (.method "Read") [(.tmp 20)] [])⟩, [], []⟩,
     ⟨9, .chain, 0, ⟨(some 29), none, .nilM [(81, 63), (99, 200), (133, 202)] "Read" (.tmp 28)⟩, [5], []⟩,
     ⟨10, .pure, 0, ⟨(some 30), none, .plain (.mov (.tmp 20))⟩, [], []⟩,
     ⟨11, .chain, 0, ⟨(some 31), none, .invoke (.tmp 30) [(81, 63), (99, 200), (133, 202)] [(.tmp 26), (.tmp 27)]⟩, [], []⟩,
     ⟨12, .pure, 0, ⟨(some 19), none, .plain (.mov (.tmp 31))⟩, [], []⟩,
     ⟨13, .pure, 0, ⟨(some 32), none, .plain (.extract (.tmp 19) 0)⟩, [], []⟩,
     ⟨14, .pure, 0, ⟨(some 33), none, .plain (.extract (.tmp 19) 1)⟩, [], []⟩,
     ⟨15, .pure, 0, ⟨(some 6), none, .plain (.mov (.tmp 32))⟩, [], []⟩,
     ⟨16, .pure, 0, ⟨(some 7), none, .plain (.mov (.tmp 33))⟩, [], []⟩])
  (.both (.both (.seq [⟨(some 34), none, .plain (.mov (.tmp 7))⟩,
      ⟨(some 35), none, .plain (.bin .neq (.tmp 34) (.const (.int .i64 0)))⟩])
   (.cond (.tmp 35)
    (.both (.seq [⟨(some 36), none, .plain (.mov (.tmp 7))⟩,
       ⟨(some 4), none, .plain (.mov (.tmp 36))⟩])
    .ret)
    .skip))
  (.both (.both (.seq [⟨(some 37), none, .plain (.mov (.tmp 0))⟩,
      ⟨(some 38), none, .plain (.nilCheck (.tmp 37))⟩,
      ⟨(some 39), none, .plain (.faddr 0 (.tmp 38))⟩,
      ⟨(some 40), none, .plain (.faddr 2 (.tmp 39))⟩,
      ⟨(some 41), none, .plain (.load none (.tmp 40))⟩,
      ⟨(some 42), none, .plain (.bin .eql (.tmp 41) (.const (.int .i64 2)))⟩])
   (.cond (.tmp 42)
    (.both (.draw 0 [⟨0, .pure, 0, ⟨(some 44), none, .plain (.mov (.tmp 1))⟩, [], []⟩,
       ⟨1, .pure, 0, ⟨(some 45), none, .plain (.mov (.tmp 0))⟩, [], []⟩,
       ⟨2, .pure, 0, ⟨(some 46), none, .plain (.nilCheck (.tmp 45))⟩, [], []⟩,
       ⟨3, .pure, 0, ⟨(some 47), none, .plain (.faddr 0 (.tmp 46))⟩, [], []⟩,
       ⟨4, .pure, 0, ⟨(some 48), none, .plain (.faddr 1 (.tmp 47))⟩, [], []⟩,
       ⟨5, .read, 0, ⟨(some 49), none, .plain (.load none (.tmp 48))⟩, [], []⟩,
       ⟨6, .pure, 0, ⟨(some 50), none, .plain (.bin .mul (.tmp 49) (.const (.int .i64 512)))⟩, [], []⟩,
       ⟨7, .pure, 0, ⟨(some 51), none, .plain (.mov (.tmp 5))⟩, [], []⟩,
       ⟨8, .pure, 0, ⟨(some 52), none, .plain (.bin .add (.tmp 50) (.tmp 51))⟩, [], []⟩,
       ⟨9, .pure, 0, ⟨(some 53), none, .plain (.mov (.tmp 5))⟩, [], []⟩,
       ⟨10, .pure, 0, ⟨(some 54), none, .plain (.mkfunc (.method "Read") [(.tmp 44)] [])⟩, [], []⟩,
       ⟨11, .chain, 0, ⟨(some 55), none, .nilM [(81, 63), (99, 200), (133, 202)] "Read" (.tmp 54)⟩, [5], []⟩,
       ⟨12, .pure, 0, ⟨(some 56), none, .plain (.mov (.tmp 44))⟩, [], []⟩,
       ⟨13, .chain, 0, ⟨(some 57), none, .invoke (.tmp 56) [(81, 63), (99, 200), (133, 202)] [(.tmp 52), (.tmp 53)]⟩, [], []⟩,
       ⟨14, .pure, 0, ⟨(some 43), none, .plain (.mov (.tmp 57))⟩, [], []⟩,
       ⟨15, .pure, 0, ⟨(some 58), none, .plain (.extract (.tmp 43) 0)⟩, [], []⟩,
       ⟨16, .pure, 0, ⟨(some 59), none, .plain (.extract (.tmp 43) 1)⟩, [], []⟩,
       ⟨17, .pure, 0, ⟨(some 8), none, .plain (.mov (.tmp 58))⟩, [], []⟩,
       ⟨18, .pure, 0, ⟨(some 9), none, .plain (.mov (.tmp 59))⟩, [], []⟩])
    (.both (.both (.seq [⟨(some 60), none, .plain (.mov (.tmp 9))⟩,
        ⟨(some 61), none, .plain (.bin .neq (.tmp 60) (.const (.int .i64 0)))⟩])
     (.cond (.tmp 61)
      (.both (.seq [⟨(some 62), none, .plain (.mov (.tmp 9))⟩,
         ⟨(some 4), none, .plain (.mov (.tmp 62))⟩])
      .ret)
      .skip))
    (.both (.seq [⟨(some 63), none, .plain (.mov (.tmp 6))⟩,
       ⟨(some 64), none, .plain (.conv .b2s (.tmp 63))⟩,
       ⟨(some 65), none, .plain (.mov (.tmp 8))⟩,
       ⟨(some 66), none, .plain (.conv .b2s (.tmp 65))⟩,
       ⟨(some 67), none, .plain (.bin .neq (.tmp 64) (.tmp 66))⟩])
    (.cond (.tmp 67)
     (.both (.seq [⟨(some 4), none, .plain (.mov (.const (.int .i64 11)))⟩])
     .ret)
     .skip))))
    .skip))
  (.both (.seq [⟨(some 68), none, .plain (.mov (.tmp 0))⟩,
     ⟨(some 69), none, .plain (.mov (.tmp 0))⟩,
     ⟨(some 70), none, .plain (.nilCheck (.tmp 69))⟩,
     ⟨(some 71), none, .plain (.faddr 0 (.tmp 70))⟩,
     ⟨(some 72), none, .plain (.load (some 8) (.tmp 71))⟩,
     ⟨(some 73), none, .call 20 [(.tmp 72)]⟩,
     ⟨(some 74), none, .plain (.bin .add (.tmp 73) (.const (.int .i64 2)))⟩,
     ⟨(some 75), none, .plain (.makeSlice ⟨1, 4, [(.int .u32 0)]⟩ (.tmp 74) (.tmp 74))⟩,
     ⟨(some 76), none, .plain (.nilCheck (.tmp 68))⟩,
     ⟨(some 77), none, .plain (.faddr 8 (.tmp 76))⟩,
     ⟨none, none, .plain (.store 1 (.tmp 77) (.tmp 75))⟩])
  (.both (.both (.seq [⟨(some 10), none, .plain (.mov (.const (.int .i64 2)))⟩])
   (.block 0 (.loop (.both (.both (.seq [⟨(some 78), none, .plain (.mov (.tmp 10))⟩,
         ⟨(some 79), none, .plain (.mov (.tmp 0))⟩,
         ⟨(some 80), none, .plain (.nilCheck (.tmp 79))⟩,
         ⟨(some 81), none, .plain (.faddr 8 (.tmp 80))⟩,
         ⟨(some 82), none, .plain (.load none (.tmp 81))⟩,
         ⟨(some 83), none, .plain (.len .sl (.tmp 82))⟩,
         ⟨(some 84), none, .plain (.bin .lss (.tmp 78) (.tmp 83))⟩])
      (.cond (.tmp 84)
       .skip
       (.exit 0)))
     (.both (.block 1 (.both (.seq [⟨(some 88), none, .plain (.mov (.tmp 6))⟩,
          ⟨(some 89), none, .plain (.mov (.tmp 10))⟩,
          ⟨(some 90), none, .plain (.bin .mul (.const (.int .i64 4)) (.tmp 89))⟩,
          ⟨(some 91), none, .call 116 [(.tmp 88), (.tmp 90)]⟩,
          ⟨(some 87), none, .plain (.mov (.tmp 91))⟩,
          ⟨(some 92), none, .plain (.extract (.tmp 87) 0)⟩,
          ⟨(some 93), none, .plain (.extract (.tmp 87) 1)⟩,
          ⟨(some 11), none, .plain (.mov (.tmp 92))⟩,
          ⟨(some 12), none, .plain (.mov (.tmp 93))⟩])
       (.seq [⟨(some 94), none, .plain (.mov (.tmp 0))⟩,
         ⟨(some 95), none, .plain (.nilCheck (.tmp 94))⟩,
         ⟨(some 96), none, .plain (.faddr 8 (.tmp 95))⟩,
         ⟨(some 97), none, .plain (.load none (.tmp 96))⟩,
         ⟨(some 98), none, .plain (.mov (.tmp 10))⟩,
         ⟨(some 99), none, .plain (.mov (.tmp 11))⟩,
         ⟨(some 100), none, .plain (.bin .and (.tmp 99) (.const (.int .u32 268435455)))⟩,
         ⟨(some 101), none, .plain (.iaddr none 1 (.tmp 97) (.tmp 98))⟩,
         ⟨none, none, .plain (.store 1 (.tmp 101) (.tmp 100))⟩])))
     (.seq [⟨(some 85), none, .plain (.mov (.tmp 10))⟩,
       ⟨(some 86), none, .plain (.bin .add (.tmp 85) (.const (.int .i64 1)))⟩,
       ⟨(some 10), none, .plain (.mov (.tmp 86))⟩]))))))
  (.both (.seq [⟨(some 4), none, .plain (.mov (.const (.int .i64 0)))⟩])
  .ret))))))))⟩
/-- (*fettle/fat.Volume).free -/
def a58 : AFunc := ⟨1, [.tmp 2],
  (.both (.seq [⟨(some 2), none, .plain (.mov (.const (.int .i64 0)))⟩])
  (.both (.seq [⟨(some 3), none, .plain (.mov (.const (.int .i64 0)))⟩])
  (.both (.both (.seq [⟨(some 6), none, .plain (.mov (.tmp 0))⟩,
      ⟨(some 7), none, .plain (.nilCheck (.tmp 6))⟩,
      ⟨(some 8), none, .plain (.faddr 8 (.tmp 7))⟩,
      ⟨(some 9), none, .plain (.load none (.tmp 8))⟩,
      ⟨(some 10), none, .plain (.cut (.sl 1) (.tmp 9) (some (.const (.int .i64 2))) none none)⟩,
      ⟨(some 11), none, .plain (.len .sl (.tmp 10))⟩,
      ⟨(some 12), none, .plain (.mov (.const (.int .i64 0)))⟩])
   (.block 0 (.loop (.both (.seq [⟨(some 13), none, .plain (.bin .lss (.tmp 12) (.tmp 11))⟩])
     (.both (.cond (.tmp 13)
       .skip
       (.exit 0))
     (.both (.block 1 (.both (.seq [⟨(some 14), none, .plain (.iaddr none 1 (.tmp 10) (.tmp 12))⟩,
          ⟨(some 15), none, .plain (.load none (.tmp 14))⟩,
          ⟨(some 5), none, .plain (.mov (.tmp 15))⟩])
       (.both (.seq [⟨(some 16), none, .plain (.mov (.tmp 5))⟩,
          ⟨(some 17), none, .plain (.bin .eql (.tmp 16) (.const (.int .u32 0)))⟩])
       (.cond (.tmp 17)
        (.seq [⟨(some 18), none, .plain (.mov (.tmp 3))⟩,
          ⟨(some 19), none, .plain (.bin .add (.tmp 18) (.const (.int .i64 1)))⟩,
          ⟨(some 3), none, .plain (.mov (.tmp 19))⟩])
        .skip))))
     (.seq [⟨(some 20), none, .plain (.bin .add (.tmp 12) (.const (.int .i64 1)))⟩,
       ⟨(some 12), none, .plain (.mov (.tmp 20))⟩])))))))
  (.both (.seq [⟨(some 21), none, .plain (.mov (.tmp 3))⟩,
     ⟨(some 2), none, .plain (.mov (.tmp 21))⟩])
  .ret))))⟩
/-- fettle/octet.Put16 -/
def a59 : AFunc := ⟨3, [.tmp 6],
  (.both (.seq [⟨(some 6), none, .plain (.mov (.const (.bool false)))⟩])
  (.both (.seq [⟨(some 7), none, .plain (.mov (.tmp 0))⟩,
     ⟨(some 8), none, .plain (.mov (.tmp 1))⟩,
     ⟨(some 9), none, .plain (.mov (.tmp 2))⟩,
     ⟨(some 10), none, .call 118 [(.tmp 7), (.tmp 8), (.const (.int .i64 2)), (.tmp 9)]⟩,
     ⟨(some 6), none, .plain (.mov (.tmp 10))⟩])
  .ret))⟩
/-- fettle/octet.Patch -/
def a60 : AFunc := ⟨3, [.tmp 6],
  (.both (.seq [⟨(some 6), none, .plain (.mov (.const (.bool false)))⟩])
  (.both (.both (.seq [⟨(some 7), none, .plain (.mov (.tmp 0))⟩,
      ⟨(some 8), none, .plain (.mov (.tmp 1))⟩,
      ⟨(some 9), none, .plain (.mov (.tmp 2))⟩,
      ⟨(some 10), none, .plain (.len .sl (.tmp 9))⟩,
      ⟨(some 11), none, .call 119 [(.tmp 7), (.tmp 8), (.tmp 10)]⟩,
      ⟨(some 12), none, .plain (.un .not (.tmp 11))⟩])
   (.cond (.tmp 12)
    (.both (.seq [⟨(some 6), none, .plain (.mov (.const (.bool false)))⟩])
    .ret)
    .skip))
  (.both (.seq [⟨(some 13), none, .plain (.mov (.tmp 0))⟩,
     ⟨(some 14), none, .plain (.mov (.tmp 1))⟩,
     ⟨(some 15), none, .plain (.cut (.sl 1) (.tmp 13) (some (.tmp 14)) none none)⟩,
     ⟨(some 16), none, .plain (.mov (.tmp 2))⟩,
     ⟨(some 17), none, .plain (.copy 1 (.tmp 15) (.tmp 16))⟩])
  (.both (.seq [⟨(some 6), none, .plain (.mov (.const (.bool true)))⟩])
  .ret))))⟩
/-- fettle/octet.put[uint32] -/
def a61 : AFunc := ⟨4, [.tmp 8],
  (.both (.seq [⟨(some 8), none, .plain (.mov (.const (.bool false)))⟩])
  (.both (.both (.seq [⟨(some 10), none, .plain (.mov (.tmp 0))⟩,
      ⟨(some 11), none, .plain (.mov (.tmp 1))⟩,
      ⟨(some 12), none, .plain (.mov (.tmp 2))⟩,
      ⟨(some 13), none, .call 119 [(.tmp 10), (.tmp 11), (.tmp 12)]⟩,
      ⟨(some 14), none, .plain (.un .not (.tmp 13))⟩])
   (.cond (.tmp 14)
    (.both (.seq [⟨(some 8), none, .plain (.mov (.const (.bool false)))⟩])
    .ret)
    .skip))
  (.both (.both (.seq [⟨(some 15), none, .plain (.mov (.tmp 2))⟩,
      ⟨(some 16), none, .plain (.mov (.const (.int .i64 0)))⟩])
   (.block 0 (.loop (.both (.seq [⟨(some 17), none, .plain (.bin .lss (.tmp 16) (.tmp 15))⟩])
     (.both (.cond (.tmp 17)
       .skip
       (.exit 0))
     (.both (.block 1 (.both (.seq [⟨(some 18), none, .plain (.mov (.tmp 16))⟩,
          ⟨(some 9), none, .plain (.mov (.tmp 18))⟩])
       (.both (.seq [⟨(some 19), none, .plain (.mov (.tmp 0))⟩,
          ⟨(some 20), none, .plain (.mov (.tmp 1))⟩,
          ⟨(some 21), none, .plain (.mov (.tmp 9))⟩,
          ⟨(some 22), none, .plain (.bin .add (.tmp 20) (.tmp 21))⟩,
          ⟨(some 23), none, .plain (.mov (.tmp 3))⟩,
          ⟨(some 24), none, .plain (.conv (.int .u8) (.tmp 23))⟩,
          ⟨(some 25), none, .plain (.iaddr none 1 (.tmp 19) (.tmp 22))⟩,
          ⟨none, none, .plain (.store 1 (.tmp 25) (.tmp 24))⟩])
       (.seq [⟨(some 26), none, .plain (.mov (.tmp 3))⟩,
         ⟨(some 27), none, .plain (.bin .shr (.tmp 26) (.const (.int .u64 8)))⟩,
         ⟨(some 3), none, .plain (.mov (.tmp 27))⟩]))))
     (.seq [⟨(some 28), none, .plain (.bin .add (.tmp 16) (.const (.int .i64 1)))⟩,
       ⟨(some 16), none, .plain (.mov (.tmp 28))⟩])))))))
  (.both (.seq [⟨(some 8), none, .plain (.mov (.const (.bool true)))⟩])
  .ret))))⟩
/-- (fettle/fettleref16.Boot).Check -/
def a73 : AFunc := ⟨1, [.tmp 2],
  (.both (.seq [⟨(some 1), none, .plain (.box (.tmp 0))⟩,
     ⟨(some 2), none, .plain (.mov (.const (.int .i64 0)))⟩])
  (.both (.seq [⟨(some 4), none, .plain (.faddr 0 (.tmp 1))⟩,
     ⟨(some 5), none, .plain (.load none (.tmp 4))⟩,
     ⟨(some 6), none, .plain (.bin .eql (.tmp 5) (.const (.int .i64 1)))⟩,
     ⟨(some 7), none, .plain (.mov (.tmp 6))⟩,
     ⟨(some 8), (some (7, false)), .plain (.faddr 0 (.tmp 1))⟩,
     ⟨(some 9), (some (7, false)), .plain (.load none (.tmp 8))⟩,
     ⟨(some 10), (some (7, false)), .plain (.bin .eql (.tmp 9) (.const (.int .i64 2)))⟩,
     ⟨(some 11), none, .plain (.pick (.tmp 7) (.const (.bool true)) (.tmp 10))⟩,
     ⟨(some 12), none, .plain (.mov (.tmp 11))⟩,
     ⟨(some 13), (some (12, false)), .plain (.faddr 0 (.tmp 1))⟩,
     ⟨(some 14), (some (12, false)), .plain (.load none (.tmp 13))⟩,
     ⟨(some 15), (some (12, false)), .plain (.bin .eql (.tmp 14) (.const (.int .i64 4)))⟩,
     ⟨(some 16), none, .plain (.pick (.tmp 12) (.const (.bool true)) (.tmp 15))⟩,
     ⟨(some 17), none, .plain (.mov (.tmp 16))⟩,
     ⟨(some 18), (some (17, false)), .plain (.faddr 0 (.tmp 1))⟩,
     ⟨(some 19), (some (17, false)), .plain (.load none (.tmp 18))⟩,
     ⟨(some 20), (some (17, false)), .plain (.bin .eql (.tmp 19) (.const (.int .i64 8)))⟩,
     ⟨(some 21), none, .plain (.pick (.tmp 17) (.const (.bool true)) (.tmp 20))⟩,
     ⟨(some 3), none, .plain (.mov (.tmp 21))⟩])
  (.both (.block 0 (.both (.seq [⟨(some 23), none, .plain (.mov (.tmp 3))⟩,
       ⟨(some 24), none, .plain (.un .not (.tmp 23))⟩,
       ⟨(some 25), none, .plain (.mov (.tmp 24))⟩,
       ⟨(some 26), (some (25, false)), .plain (.faddr 2 (.tmp 1))⟩,
       ⟨(some 27), (some (25, false)), .plain (.load none (.tmp 26))⟩,
       ⟨(some 28), (some (25, false)), .plain (.bin .lss (.tmp 27) (.const (.int .i64 1)))⟩,
       ⟨(some 29), none, .plain (.pick (.tmp 25) (.const (.bool true)) (.tmp 28))⟩,
       ⟨(some 30), none, .plain (.mov (.tmp 29))⟩,
       ⟨(some 31), (some (30, false)), .plain (.faddr 2 (.tmp 1))⟩,
       ⟨(some 32), (some (30, false)), .plain (.load none (.tmp 31))⟩,
       ⟨(some 33), (some (30, false)), .plain (.bin .gtr (.tmp 32) (.const (.int .i64 2)))⟩,
       ⟨(some 34), none, .plain (.pick (.tmp 30) (.const (.bool true)) (.tmp 33))⟩,
       ⟨(some 35), none, .plain (.mov (.tmp 34))⟩,
       ⟨(some 36), (some (35, false)), .plain (.faddr 3 (.tmp 1))⟩,
       ⟨(some 37), (some (35, false)), .plain (.load none (.tmp 36))⟩,
       ⟨(some 38), (some (35, false)), .plain (.bin .lss (.tmp 37) (.const (.int .i64 1)))⟩,
       ⟨(some 39), none, .plain (.pick (.tmp 35) (.const (.bool true)) (.tmp 38))⟩,
       ⟨(some 40), none, .plain (.mov (.tmp 39))⟩,
       ⟨(some 41), (some (40, false)), .plain (.faddr 3 (.tmp 1))⟩,
       ⟨(some 42), (some (40, false)), .plain (.load none (.tmp 41))⟩,
       ⟨(some 43), (some (40, false)), .plain (.bin .gtr (.tmp 42) (.const (.int .i64 32768)))⟩,
       ⟨(some 44), none, .plain (.pick (.tmp 40) (.const (.bool true)) (.tmp 43))⟩,
       ⟨(some 45), none, .plain (.mov (.tmp 44))⟩,
       ⟨(some 46), (some (45, false)), .plain (.faddr 4 (.tmp 1))⟩,
       ⟨(some 47), (some (45, false)), .plain (.load none (.tmp 46))⟩,
       ⟨(some 48), (some (45, false)), .plain (.bin .lss (.tmp 47) (.const (.int .i64 1)))⟩,
       ⟨(some 49), none, .plain (.pick (.tmp 45) (.const (.bool true)) (.tmp 48))⟩,
       ⟨(some 50), none, .plain (.mov (.tmp 49))⟩,
       ⟨(some 51), (some (50, false)), .plain (.faddr 4 (.tmp 1))⟩,
       ⟨(some 52), (some (50, false)), .plain (.load none (.tmp 51))⟩,
       ⟨(some 53), (some (50, false)), .plain (.faddr 3 (.tmp 1))⟩,
       ⟨(some 54), (some (50, false)), .plain (.load none (.tmp 53))⟩,
       ⟨(some 55), (some (50, false)), .plain (.bin .gtr (.tmp 52) (.tmp 54))⟩,
       ⟨(some 56), none, .plain (.pick (.tmp 50) (.const (.bool true)) (.tmp 55))⟩,
       ⟨(some 57), none, .plain (.mov (.tmp 56))⟩,
       ⟨(some 58), (some (57, false)), .plain (.faddr 1 (.tmp 1))⟩,
       ⟨(some 59), (some (57, false)), .plain (.load none (.tmp 58))⟩,
       ⟨(some 60), (some (57, false)), .plain (.bin .lss (.tmp 59) (.const (.int .i64 2)))⟩,
       ⟨(some 61), none, .plain (.pick (.tmp 57) (.const (.bool true)) (.tmp 60))⟩,
       ⟨(some 62), none, .plain (.mov (.tmp 61))⟩,
       ⟨(some 63), (some (62, false)), .plain (.faddr 1 (.tmp 1))⟩,
       ⟨(some 64), (some (62, false)), .plain (.load none (.tmp 63))⟩,
       ⟨(some 65), (some (62, false)), .plain (.bin .gtr (.tmp 64) (.const (.int .i64 64)))⟩,
       ⟨(some 66), none, .plain (.pick (.tmp 62) (.const (.bool true)) (.tmp 65))⟩,
       ⟨(some 22), none, .plain (.mov (.tmp 66))⟩])
    (.cond (.tmp 22)
     (.both (.seq [⟨(some 2), none, .plain (.mov (.const (.int .i64 11)))⟩])
     .ret)
     (.both (.seq [⟨(some 68), none, .plain (.faddr 6 (.tmp 1))⟩,
        ⟨(some 69), none, .plain (.load none (.tmp 68))⟩,
        ⟨(some 70), none, .plain (.bin .lss (.tmp 69) (.const (.int .i64 1)))⟩,
        ⟨(some 71), none, .plain (.mov (.tmp 70))⟩,
        ⟨(some 72), (some (71, false)), .plain (.faddr 6 (.tmp 1))⟩,
        ⟨(some 73), (some (71, false)), .plain (.load none (.tmp 72))⟩,
        ⟨(some 74), (some (71, false)), .plain (.faddr 1 (.tmp 1))⟩,
        ⟨(some 75), (some (71, false)), .plain (.load none (.tmp 74))⟩,
        ⟨(some 76), (some (71, false)), .plain (.bin .geq (.tmp 73) (.tmp 75))⟩,
        ⟨(some 77), none, .plain (.pick (.tmp 71) (.const (.bool true)) (.tmp 76))⟩,
        ⟨(some 78), none, .plain (.mov (.tmp 77))⟩,
        ⟨(some 79), (some (78, false)), .plain (.faddr 7 (.tmp 1))⟩,
        ⟨(some 80), (some (78, false)), .plain (.load none (.tmp 79))⟩,
        ⟨(some 81), (some (78, false)), .plain (.bin .lss (.tmp 80) (.const (.int .i64 0)))⟩,
        ⟨(some 82), none, .plain (.pick (.tmp 78) (.const (.bool true)) (.tmp 81))⟩,
        ⟨(some 83), none, .plain (.mov (.tmp 82))⟩,
        ⟨(some 84), (some (83, false)), .plain (.faddr 7 (.tmp 1))⟩,
        ⟨(some 85), (some (83, false)), .plain (.load none (.tmp 84))⟩,
        ⟨(some 86), (some (83, false)), .plain (.faddr 1 (.tmp 1))⟩,
        ⟨(some 87), (some (83, false)), .plain (.load none (.tmp 86))⟩,
        ⟨(some 88), (some (83, false)), .plain (.bin .geq (.tmp 85) (.tmp 87))⟩,
        ⟨(some 89), none, .plain (.pick (.tmp 83) (.const (.bool true)) (.tmp 88))⟩,
        ⟨(some 90), none, .plain (.mov (.tmp 89))⟩,
        ⟨(some 91), (some (90, false)), .plain (.faddr 7 (.tmp 1))⟩,
        ⟨(some 92), (some (90, false)), .plain (.load none (.tmp 91))⟩,
        ⟨(some 93), (some (90, false)), .plain (.faddr 6 (.tmp 1))⟩,
        ⟨(some 94), (some (90, false)), .plain (.load none (.tmp 93))⟩,
        ⟨(some 95), (some (90, false)), .plain (.bin .eql (.tmp 92) (.tmp 94))⟩,
        ⟨(some 96), none, .plain (.pick (.tmp 90) (.const (.bool true)) (.tmp 95))⟩,
        ⟨(some 67), none, .plain (.mov (.tmp 96))⟩])
     (.cond (.tmp 67)
      (.both (.seq [⟨(some 2), none, .plain (.mov (.const (.int .i64 11)))⟩])
      .ret)
      (.both (.draw 0 [⟨0, .read, 0, ⟨(some 98), none, .plain (.load (some 8) (.tmp 1))⟩, [], []⟩,
         ⟨2, .pure, 0, ⟨(some 100), none, .plain (.faddr 3 (.tmp 1))⟩, [], []⟩,
         ⟨3, .read, 0, ⟨(some 101), none, .plain (.load none (.tmp 100))⟩, [], []⟩,
         ⟨1, .chain, 0, ⟨(some 99), none, .call 125 [(.tmp 98)]⟩, [3], []⟩,
         ⟨4, .pure, 0, ⟨(some 102), none, .plain (.bin .geq (.tmp 99) (.tmp 101))⟩, [], []⟩,
         ⟨5, .pure, 0, ⟨(some 103), none, .plain (.mov (.tmp 102))⟩, [], []⟩,
         ⟨6, .read, 0, ⟨(some 104), (some (103, false)), .plain (.load (some 8) (.tmp 1))⟩, [], []⟩,
         ⟨7, .chain, 0, ⟨(some 105), (some (103, false)), .call 78 [(.tmp 104)]⟩, [], []⟩,
         ⟨8, .pure, 0, ⟨(some 106), (some (103, false)), .plain (.bin .lss (.tmp 105) (.const (.int .i64 1)))⟩, [], []⟩,
         ⟨9, .pure, 0, ⟨(some 107), none, .plain (.pick (.tmp 103) (.const (.bool true)) (.tmp 106))⟩, [], []⟩,
         ⟨10, .pure, 0, ⟨(some 97), none, .plain (.mov (.tmp 107))⟩, [], []⟩])
      (.cond (.tmp 97)
       (.both (.seq [⟨(some 2), none, .plain (.mov (.const (.int .i64 4)))⟩])
       .ret)
       (.both (.draw 0 [⟨0, .read, 0, ⟨(some 109), none, .plain (.load (some 8) (.tmp 1))⟩, [], []⟩,
          ⟨2, .pure, 0, ⟨(some 111), none, .plain (.faddr 4 (.tmp 1))⟩, [], []⟩,
          ⟨3, .read, 0, ⟨(some 112), none, .plain (.load none (.tmp 111))⟩, [], []⟩,
          ⟨4, .pure, 0, ⟨(some 113), none, .plain (.bin .mul (.const (.int .i64 128)) (.tmp 112))⟩, [], []⟩,
          ⟨5, .pure, 0, ⟨(some 114), none, .plain (.bin .sub (.tmp 113) (.const (.int .i64 2)))⟩, [], []⟩,
          ⟨1, .chain, 0, ⟨(some 110), none, .call 78 [(.tmp 109)]⟩, [3], []⟩,
          ⟨6, .pure, 0, ⟨(some 115), none, .plain (.bin .gtr (.tmp 110) (.tmp 114))⟩, [], []⟩,
          ⟨7, .pure, 0, ⟨(some 108), none, .plain (.mov (.tmp 115))⟩, [], []⟩])
       (.cond (.tmp 108)
        (.both (.seq [⟨(some 2), none, .plain (.mov (.const (.int .i64 20)))⟩])
        .ret)
        (.both (.draw 0 [⟨0, .pure, 0, ⟨(some 117), none, .plain (.faddr 5 (.tmp 1))⟩, [], []⟩,
           ⟨1, .read, 0, ⟨(some 118), none, .plain (.load none (.tmp 117))⟩, [], []⟩,
           ⟨2, .pure, 0, ⟨(some 119), none, .plain (.bin .lss (.tmp 118) (.const (.int .i64 2)))⟩, [], []⟩,
           ⟨3, .pure, 0, ⟨(some 120), none, .plain (.mov (.tmp 119))⟩, [], []⟩,
           ⟨4, .pure, 0, ⟨(some 121), (some (120, false)), .plain (.faddr 5 (.tmp 1))⟩, [], []⟩,
           ⟨5, .read, 0, ⟨(some 122), (some (120, false)), .plain (.load none (.tmp 121))⟩, [], []⟩,
           ⟨6, .read, 0, ⟨(some 123), (some (120, false)), .plain (.load (some 8) (.tmp 1))⟩, [], []⟩,
           ⟨7, .chain, 0, ⟨(some 124), (some (120, false)), .call 78 [(.tmp 123)]⟩, [5], []⟩,
           ⟨8, .pure, 0, ⟨(some 125), (some (120, false)), .plain (.bin .add (.tmp 124) (.const (.int .i64 1)))⟩, [], []⟩,
           ⟨9, .pure, 0, ⟨(some 126), (some (120, false)), .plain (.bin .gtr (.tmp 122) (.tmp 125))⟩, [], []⟩,
           ⟨10, .pure, 0, ⟨(some 127), none, .plain (.pick (.tmp 120) (.const (.bool true)) (.tmp 126))⟩, [], []⟩,
           ⟨11, .pure, 0, ⟨(some 116), none, .plain (.mov (.tmp 127))⟩, [], []⟩])
        (.cond (.tmp 116)
         (.both (.seq [⟨(some 2), none, .plain (.mov (.const (.int .i64 4)))⟩])
         .ret)
         .skip)))))))))))
  (.both (.seq [⟨(some 2), none, .plain (.mov (.const (.int .i64 0)))⟩])
  .ret))))⟩
/-- fettle/fettleref01.Zeros -/
def a74 : AFunc := ⟨1, [.tmp 2],
  (.both (.seq [⟨(some 2), none, .plain (.mov (.const (.slice none 0 0)))⟩])
  (.both (.seq [⟨(some 3), none, .plain (.mov (.tmp 0))⟩,
     ⟨(some 4), none, .plain (.makeSlice ⟨1, 1, [(.int .u8 0)]⟩ (.tmp 3) (.tmp 3))⟩,
     ⟨(some 2), none, .plain (.mov (.tmp 4))⟩])
  .ret))⟩
/-- (fettle/fettleref16.Boot).Put -/
def a75 : AFunc := ⟨2, [.tmp 4],
  (.both (.seq [⟨(some 2), none, .plain (.box (.tmp 0))⟩,
     ⟨(some 4), none, .plain (.mov (.const (.slice none 0 0)))⟩])
  (.both (.seq [⟨(some 5), none, .plain (.mov (.tmp 1))⟩,
     ⟨(some 6), none, .call 79 [(.const (.int .u64 512)), (.const (.int .i64 2))]⟩,
     ⟨(some 7), none, .call 76 [(.tmp 5), (.const (.int .i64 11)), (.tmp 6)]⟩,
     ⟨(some 1), none, .plain (.mov (.tmp 7))⟩])
  (.both (.seq [⟨(some 8), none, .plain (.mov (.tmp 1))⟩,
     ⟨(some 9), none, .plain (.faddr 0 (.tmp 2))⟩,
     ⟨(some 10), none, .plain (.load none (.tmp 9))⟩,
     ⟨(some 11), none, .plain (.conv (.int .u64) (.tmp 10))⟩,
     ⟨(some 12), none, .call 79 [(.tmp 11), (.const (.int .i64 1))]⟩,
     ⟨(some 13), none, .call 76 [(.tmp 8), (.const (.int .i64 13)), (.tmp 12)]⟩,
     ⟨(some 1), none, .plain (.mov (.tmp 13))⟩])
  (.both (.seq [⟨(some 14), none, .plain (.mov (.tmp 1))⟩,
     ⟨(some 15), none, .plain (.faddr 1 (.tmp 2))⟩,
     ⟨(some 16), none, .plain (.load none (.tmp 15))⟩,
     ⟨(some 17), none, .plain (.conv (.int .u64) (.tmp 16))⟩,
     ⟨(some 18), none, .call 79 [(.tmp 17), (.const (.int .i64 2))]⟩,
     ⟨(some 19), none, .call 76 [(.tmp 14), (.const (.int .i64 14)), (.tmp 18)]⟩,
     ⟨(some 1), none, .plain (.mov (.tmp 19))⟩])
  (.both (.seq [⟨(some 20), none, .plain (.mov (.tmp 1))⟩,
     ⟨(some 21), none, .plain (.faddr 2 (.tmp 2))⟩,
     ⟨(some 22), none, .plain (.load none (.tmp 21))⟩,
     ⟨(some 23), none, .plain (.conv (.int .u64) (.tmp 22))⟩,
     ⟨(some 24), none, .call 79 [(.tmp 23), (.const (.int .i64 1))]⟩,
     ⟨(some 25), none, .call 76 [(.tmp 20), (.const (.int .i64 16)), (.tmp 24)]⟩,
     ⟨(some 1), none, .plain (.mov (.tmp 25))⟩])
  (.both (.seq [⟨(some 26), none, .plain (.mov (.tmp 1))⟩,
     ⟨(some 27), none, .call 74 [(.const (.int .i64 4))]⟩,
     ⟨(some 28), none, .call 76 [(.tmp 26), (.const (.int .i64 17)), (.tmp 27)]⟩,
     ⟨(some 1), none, .plain (.mov (.tmp 28))⟩])
  (.both (.seq [⟨(some 29), none, .plain (.mov (.tmp 1))⟩,
     ⟨(some 30), none, .call 74 [(.const (.int .i64 2))]⟩,
     ⟨(some 31), none, .call 76 [(.tmp 29), (.const (.int .i64 22)), (.tmp 30)]⟩,
     ⟨(some 1), none, .plain (.mov (.tmp 31))⟩])
  (.both (.seq [⟨(some 32), none, .plain (.mov (.tmp 1))⟩,
     ⟨(some 33), none, .plain (.faddr 3 (.tmp 2))⟩,
     ⟨(some 34), none, .plain (.load none (.tmp 33))⟩,
     ⟨(some 35), none, .plain (.conv (.int .u64) (.tmp 34))⟩,
     ⟨(some 36), none, .call 79 [(.tmp 35), (.const (.int .i64 4))]⟩,
     ⟨(some 37), none, .call 76 [(.tmp 32), (.const (.int .i64 32)), (.tmp 36)]⟩,
     ⟨(some 1), none, .plain (.mov (.tmp 37))⟩])
  (.both (.seq [⟨(some 38), none, .plain (.mov (.tmp 1))⟩,
     ⟨(some 39), none, .plain (.faddr 4 (.tmp 2))⟩,
     ⟨(some 40), none, .plain (.load none (.tmp 39))⟩,
     ⟨(some 41), none, .plain (.conv (.int .u64) (.tmp 40))⟩,
     ⟨(some 42), none, .call 79 [(.tmp 41), (.const (.int .i64 4))]⟩,
     ⟨(some 43), none, .call 76 [(.tmp 38), (.const (.int .i64 36)), (.tmp 42)]⟩,
     ⟨(some 1), none, .plain (.mov (.tmp 43))⟩])
  (.both (.seq [⟨(some 44), none, .plain (.mov (.tmp 1))⟩,
     ⟨(some 45), none, .call 74 [(.const (.int .i64 4))]⟩,
     ⟨(some 46), none, .call 76 [(.tmp 44), (.const (.int .i64 40)), (.tmp 45)]⟩,
     ⟨(some 1), none, .plain (.mov (.tmp 46))⟩])
  (.both (.seq [⟨(some 47), none, .plain (.mov (.tmp 1))⟩,
     ⟨(some 48), none, .plain (.faddr 5 (.tmp 2))⟩,
     ⟨(some 49), none, .plain (.load none (.tmp 48))⟩,
     ⟨(some 50), none, .plain (.conv (.int .u64) (.tmp 49))⟩,
     ⟨(some 51), none, .call 79 [(.tmp 50), (.const (.int .i64 4))]⟩,
     ⟨(some 52), none, .call 76 [(.tmp 47), (.const (.int .i64 44)), (.tmp 51)]⟩,
     ⟨(some 1), none, .plain (.mov (.tmp 52))⟩])
  (.both (.seq [⟨(some 53), none, .plain (.mov (.tmp 1))⟩,
     ⟨(some 54), none, .plain (.faddr 6 (.tmp 2))⟩,
     ⟨(some 55), none, .plain (.load none (.tmp 54))⟩,
     ⟨(some 56), none, .plain (.conv (.int .u64) (.tmp 55))⟩,
     ⟨(some 57), none, .call 79 [(.tmp 56), (.const (.int .i64 2))]⟩,
     ⟨(some 58), none, .call 76 [(.tmp 53), (.const (.int .i64 48)), (.tmp 57)]⟩,
     ⟨(some 1), none, .plain (.mov (.tmp 58))⟩])
  (.both (.seq [⟨(some 59), none, .plain (.mov (.tmp 1))⟩,
     ⟨(some 60), none, .plain (.faddr 7 (.tmp 2))⟩,
     ⟨(some 61), none, .plain (.load none (.tmp 60))⟩,
     ⟨(some 62), none, .plain (.conv (.int .u64) (.tmp 61))⟩,
     ⟨(some 63), none, .call 79 [(.tmp 62), (.const (.int .i64 2))]⟩,
     ⟨(some 64), none, .call 76 [(.tmp 59), (.const (.int .i64 50)), (.tmp 63)]⟩,
     ⟨(some 1), none, .plain (.mov (.tmp 64))⟩])
  (.both (.seq [⟨(some 65), none, .plain (.mov (.tmp 1))⟩,
     ⟨(some 66), none, .plain (.buildSlice ⟨1, 1, [(.int .u8 0)]⟩ 8 [(0, (.const (.int .u8 70))), (1, (.const (.int .u8 65))), (2, (.const (.int .u8 84))), (3, (.const (.int .u8 51))), (4, (.const (.int .u8 50))), (5, (.const (.int .u8 32))), (6, (.const (.int .u8 32))), (7, (.const (.int .u8 32)))])⟩,
     ⟨(some 67), none, .plain (.conv .mark (.tmp 66))⟩,
     ⟨(some 68), none, .call 76 [(.tmp 65), (.const (.int .i64 82)), (.tmp 67)]⟩,
     ⟨(some 1), none, .plain (.mov (.tmp 68))⟩])
  (.both (.seq [⟨(some 69), none, .plain (.mov (.tmp 1))⟩,
     ⟨(some 70), none, .plain (.buildSlice ⟨1, 1, [(.int .u8 0)]⟩ 2 [(0, (.const (.int .u8 85))), (1, (.const (.int .u8 170)))])⟩,
     ⟨(some 71), none, .call 76 [(.tmp 69), (.const (.int .i64 510)), (.tmp 70)]⟩,
     ⟨(some 4), none, .plain (.mov (.tmp 71))⟩])
  .ret)))))))))))))))⟩
/-- fettle/fettleref01.With -/
def a76 : AFunc := ⟨3, [.tmp 6],
  (.both (.seq [⟨(some 6), none, .plain (.mov (.const (.slice none 0 0)))⟩])
  (.both (.seq [⟨(some 7), none, .plain (.mov (.const (.slice none 0 0)))⟩])
  (.both (.seq [⟨(some 8), none, .plain (.mov (.tmp 7))⟩,
     ⟨(some 9), none, .plain (.mov (.tmp 0))⟩,
     ⟨(some 10), none, .plain (.mov (.tmp 1))⟩,
     ⟨(some 11), none, .plain (.cut (.sl 1) (.tmp 9) none (some (.tmp 10)) none)⟩,
     ⟨(some 12), none, .plain (.append ⟨1, 1, [(.int .u8 0)]⟩ false (.tmp 8) (.tmp 11))⟩,
     ⟨(some 7), none, .plain (.mov (.tmp 12))⟩])
  (.both (.seq [⟨(some 13), none, .plain (.mov (.tmp 7))⟩,
     ⟨(some 14), none, .plain (.mov (.tmp 2))⟩,
     ⟨(some 15), none, .plain (.append ⟨1, 1, [(.int .u8 0)]⟩ false (.tmp 13) (.tmp 14))⟩,
     ⟨(some 7), none, .plain (.mov (.tmp 15))⟩])
  (.both (.seq [⟨(some 16), none, .plain (.mov (.tmp 7))⟩,
     ⟨(some 17), none, .plain (.mov (.tmp 0))⟩,
     ⟨(some 18), none, .plain (.mov (.tmp 1))⟩,
     ⟨(some 19), none, .plain (.mov (.tmp 2))⟩,
     ⟨(some 20), none, .plain (.len .sl (.tmp 19))⟩,
     ⟨(some 21), none, .plain (.bin .add (.tmp 18) (.tmp 20))⟩,
     ⟨(some 22), none, .plain (.cut (.sl 1) (.tmp 17) (some (.tmp 21)) none none)⟩,
     ⟨(some 23), none, .plain (.append ⟨1, 1, [(.int .u8 0)]⟩ false (.tmp 16) (.tmp 22))⟩,
     ⟨(some 6), none, .plain (.mov (.tmp 23))⟩])
  .ret)))))⟩
/-- fettle/fettleref16.CountsSector -/
def a77 : AFunc := ⟨2, [.tmp 4],
  (.both (.seq [⟨(some 4), none, .plain (.mov (.const (.slice none 0 0)))⟩])
  (.both (.seq [⟨(some 6), none, .call 74 [(.const (.int .i64 512))]⟩,
     ⟨(some 5), none, .plain (.mov (.tmp 6))⟩])
  (.both (.seq [⟨(some 7), none, .plain (.mov (.tmp 5))⟩,
     ⟨(some 8), none, .call 79 [(.const (.int .u64 1096897106)), (.const (.int .i64 4))]⟩,
     ⟨(some 9), none, .call 76 [(.tmp 7), (.const (.int .i64 0)), (.tmp 8)]⟩,
     ⟨(some 5), none, .plain (.mov (.tmp 9))⟩])
  (.both (.seq [⟨(some 10), none, .plain (.mov (.tmp 5))⟩,
     ⟨(some 11), none, .call 79 [(.const (.int .u64 1631679090)), (.const (.int .i64 4))]⟩,
     ⟨(some 12), none, .call 76 [(.tmp 10), (.const (.int .i64 484)), (.tmp 11)]⟩,
     ⟨(some 5), none, .plain (.mov (.tmp 12))⟩])
  (.both (.seq [⟨(some 13), none, .plain (.mov (.tmp 5))⟩,
     ⟨(some 14), none, .plain (.mov (.tmp 0))⟩,
     ⟨(some 15), none, .plain (.conv (.int .u64) (.tmp 14))⟩,
     ⟨(some 16), none, .call 79 [(.tmp 15), (.const (.int .i64 4))]⟩,
     ⟨(some 17), none, .call 76 [(.tmp 13), (.const (.int .i64 488)), (.tmp 16)]⟩,
     ⟨(some 5), none, .plain (.mov (.tmp 17))⟩])
  (.both (.seq [⟨(some 18), none, .plain (.mov (.tmp 5))⟩,
     ⟨(some 19), none, .plain (.mov (.tmp 1))⟩,
     ⟨(some 20), none, .plain (.conv (.int .u64) (.tmp 19))⟩,
     ⟨(some 21), none, .call 79 [(.tmp 20), (.const (.int .i64 4))]⟩,
     ⟨(some 22), none, .call 76 [(.tmp 18), (.const (.int .i64 492)), (.tmp 21)]⟩,
     ⟨(some 5), none, .plain (.mov (.tmp 22))⟩])
  (.both (.seq [⟨(some 23), none, .plain (.mov (.tmp 5))⟩,
     ⟨(some 24), none, .call 79 [(.const (.int .u64 2857697280)), (.const (.int .i64 4))]⟩,
     ⟨(some 25), none, .call 76 [(.tmp 23), (.const (.int .i64 508)), (.tmp 24)]⟩,
     ⟨(some 4), none, .plain (.mov (.tmp 25))⟩])
  .ret)))))))⟩
/-- (fettle/fettleref16.Boot).Clusters -/
def a78 : AFunc := ⟨1, [.tmp 2],
  (.both (.seq [⟨(some 1), none, .plain (.box (.tmp 0))⟩,
     ⟨(some 2), none, .plain (.mov (.const (.int .i64 0)))⟩])
  (.both (.seq [⟨(some 5), none, .plain (.faddr 0 (.tmp 1))⟩,
     ⟨(some 6), none, .plain (.load none (.tmp 5))⟩,
     ⟨(some 3), none, .plain (.mov (.tmp 6))⟩])
  (.both (.both (.seq [⟨(some 7), none, .plain (.mov (.tmp 3))⟩,
      ⟨(some 8), none, .plain (.bin .lss (.tmp 7) (.const (.int .i64 1)))⟩])
   (.cond (.tmp 8)
    (.seq [⟨(some 3), none, .plain (.mov (.const (.int .i64 1)))⟩])
    .skip))
  (.both (.draw 0 [⟨0, .pure, 0, ⟨(some 9), none, .plain (.faddr 3 (.tmp 1))⟩, [], []⟩,
     ⟨1, .read, 0, ⟨(some 10), none, .plain (.load none (.tmp 9))⟩, [], []⟩,
     ⟨2, .read, 0, ⟨(some 11), none, .plain (.load (some 8) (.tmp 1))⟩, [], []⟩,
     ⟨5, .pure, 0, ⟨(some 14), none, .plain (.mov (.tmp 3))⟩, [], []⟩,
     ⟨3, .chain, 0, ⟨(some 12), none, .call 125 [(.tmp 11)]⟩, [1], []⟩,
     ⟨4, .pure, 0, ⟨(some 13), none, .plain (.bin .sub (.tmp 10) (.tmp 12))⟩, [], []⟩,
     ⟨6, .pure, 0, ⟨(some 15), none, .plain (.bin .quo (.tmp 13) (.tmp 14))⟩, [], []⟩,
     ⟨7, .pure, 0, ⟨(some 4), none, .plain (.mov (.tmp 15))⟩, [], []⟩])
  (.both (.both (.seq [⟨(some 16), none, .plain (.mov (.tmp 4))⟩,
      ⟨(some 17), none, .plain (.bin .lss (.tmp 16) (.const (.int .i64 0)))⟩])
   (.cond (.tmp 17)
    (.both (.seq [⟨(some 2), none, .plain (.mov (.const (.int .i64 0)))⟩])
    .ret)
    .skip))
  (.both (.seq [⟨(some 18), none, .plain (.mov (.tmp 4))⟩,
     ⟨(some 2), none, .plain (.mov (.tmp 18))⟩])
  .ret))))))⟩
/-- fettle/fettleref01.Bytes -/
def a79 : AFunc := ⟨2, [.tmp 4],
  (.both (.seq [⟨(some 4), none, .plain (.mov (.const (.slice none 0 0)))⟩])
  (.both (.seq [⟨(some 5), none, .plain (.mov (.const (.slice none 0 0)))⟩])
  (.both (.both (.seq [⟨(some 6), none, .plain (.mov (.const (.int .i64 0)))⟩])
   (.block 0 (.loop (.both (.both (.seq [⟨(some 7), none, .plain (.mov (.tmp 6))⟩,
         ⟨(some 8), none, .plain (.mov (.tmp 1))⟩,
         ⟨(some 9), none, .plain (.bin .lss (.tmp 7) (.tmp 8))⟩])
      (.cond (.tmp 9)
       .skip
       (.exit 0)))
     (.both (.block 1 (.both (.seq [⟨(some 12), none, .plain (.mov (.tmp 5))⟩,
          ⟨(some 13), none, .plain (.mov (.tmp 0))⟩,
          ⟨(some 14), none, .plain (.bin .rem (.tmp 13) (.const (.int .u64 256)))⟩,
          ⟨(some 15), none, .plain (.conv (.int .u8) (.tmp 14))⟩,
          ⟨(some 16), none, .plain (.buildSlice ⟨1, 1, [(.int .u8 0)]⟩ 1 [(0, (.tmp 15))])⟩,
          ⟨(some 17), none, .plain (.append ⟨1, 1, [(.int .u8 0)]⟩ false (.tmp 12) (.tmp 16))⟩,
          ⟨(some 5), none, .plain (.mov (.tmp 17))⟩])
       (.seq [⟨(some 18), none, .plain (.mov (.tmp 0))⟩,
         ⟨(some 19), none, .plain (.bin .quo (.tmp 18) (.const (.int .u64 256)))⟩,
         ⟨(some 0), none, .plain (.mov (.tmp 19))⟩])))
     (.seq [⟨(some 10), none, .plain (.mov (.tmp 6))⟩,
       ⟨(some 11), none, .plain (.bin .add (.tmp 10) (.const (.int .i64 1)))⟩,
       ⟨(some 6), none, .plain (.mov (.tmp 11))⟩]))))))
  (.both (.seq [⟨(some 20), none, .plain (.mov (.tmp 5))⟩,
     ⟨(some 4), none, .plain (.mov (.tmp 20))⟩])
  .ret))))⟩
/-- fettle/fettleref16.Parse -/
def a80 : AFunc := ⟨1, [.cell 2 (some 8), .tmp 3],
  (.both (.seq [⟨(some 2), none, .plain (.alloc [(.int .i64 0), (.int .i64 0), (.int .i64 0), (.int .i64 0), (.int .i64 0), (.int .i64 0), (.int .i64 0), (.int .i64 0)])⟩,
     ⟨(some 3), none, .plain (.mov (.const (.int .i64 0)))⟩])
  (.both (.both (.seq [⟨(some 6), none, .plain (.mov (.tmp 0))⟩,
      ⟨(some 7), none, .plain (.len .sl (.tmp 6))⟩,
      ⟨(some 8), none, .plain (.bin .neq (.tmp 7) (.const (.int .i64 512)))⟩])
   (.cond (.tmp 8)
    (.both (.seq [⟨(some 9), none, .plain (.build (.str [(.int .i64 0), (.int .i64 0), (.int .i64 0), (.int .i64 0), (.int .i64 0), (.int .i64 0), (.int .i64 0), (.int .i64 0)] [(0, 1), (1, 1), (2, 1), (3, 1), (4, 1), (5, 1), (6, 1), (7, 1)]) [])⟩,
       ⟨none, none, .plain (.store 8 (.tmp 2) (.tmp 9))⟩,
       ⟨(some 3), none, .plain (.mov (.const (.int .i64 4)))⟩])
    .ret)
    .skip))
  (.both (.both (.seq [⟨(some 10), none, .plain (.mov (.tmp 0))⟩,
      ⟨(some 11), none, .plain (.iaddr none 1 (.tmp 10) (.const (.int .i64 510)))⟩,
      ⟨(some 12), none, .plain (.load none (.tmp 11))⟩,
      ⟨(some 13), none, .plain (.bin .neq (.tmp 12) (.const (.int .u8 85)))⟩,
      ⟨(some 14), none, .plain (.mov (.tmp 13))⟩,
      ⟨(some 15), (some (14, false)), .plain (.mov (.tmp 0))⟩,
      ⟨(some 16), (some (14, false)), .plain (.iaddr none 1 (.tmp 15) (.const (.int .i64 511)))⟩,
      ⟨(some 17), (some (14, false)), .plain (.load none (.tmp 16))⟩,
      ⟨(some 18), (some (14, false)), .plain (.bin .neq (.tmp 17) (.const (.int .u8 170)))⟩,
      ⟨(some 19), none, .plain (.pick (.tmp 14) (.const (.bool true)) (.tmp 18))⟩,
      ⟨(some 20), none, .plain (.mov (.tmp 19))⟩,
      ⟨(some 21), (some (20, false)), .plain (.mov (.tmp 0))⟩,
      ⟨(some 22), (some (20, false)), .plain (.cut (.sl 1) (.tmp 21) (some (.const (.int .i64 82))) (some (.const (.int .i64 90))) none)⟩,
      ⟨(some 23), (some (20, false)), .plain (.conv .b2s (.tmp 22))⟩,
      ⟨(some 24), (some (20, false)), .plain (.bin .neq (.tmp 23) (.const (.string ⟨#[70, 65, 84, 51, 50, 32, 32, 32]⟩)))⟩,
      ⟨(some 25), none, .plain (.pick (.tmp 20) (.const (.bool true)) (.tmp 24))⟩])
   (.cond (.tmp 25)
    (.both (.seq [⟨(some 26), none, .plain (.build (.str [(.int .i64 0), (.int .i64 0), (.int .i64 0), (.int .i64 0), (.int .i64 0), (.int .i64 0), (.int .i64 0), (.int .i64 0)] [(0, 1), (1, 1), (2, 1), (3, 1), (4, 1), (5, 1), (6, 1), (7, 1)]) [])⟩,
       ⟨none, none, .plain (.store 8 (.tmp 2) (.tmp 26))⟩,
       ⟨(some 3), none, .plain (.mov (.const (.int .i64 10)))⟩])
    .ret)
    .skip))
  (.both (.both (.seq [⟨(some 27), none, .plain (.mov (.tmp 0))⟩,
      ⟨(some 28), none, .call 83 [(.tmp 27), (.const (.int .i64 11)), (.const (.int .i64 2))]⟩,
      ⟨(some 29), none, .plain (.bin .neq (.tmp 28) (.const (.int .i64 512)))⟩,
      ⟨(some 30), none, .plain (.mov (.tmp 29))⟩,
      ⟨(some 31), (some (30, false)), .plain (.mov (.tmp 0))⟩,
      ⟨(some 32), (some (30, false)), .call 83 [(.tmp 31), (.const (.int .i64 17)), (.const (.int .i64 2))]⟩,
      ⟨(some 33), (some (30, false)), .plain (.bin .neq (.tmp 32) (.const (.int .i64 0)))⟩,
      ⟨(some 34), none, .plain (.pick (.tmp 30) (.const (.bool true)) (.tmp 33))⟩,
      ⟨(some 35), none, .plain (.mov (.tmp 34))⟩,
      ⟨(some 36), (some (35, false)), .plain (.mov (.tmp 0))⟩,
      ⟨(some 37), (some (35, false)), .call 83 [(.tmp 36), (.const (.int .i64 19)), (.const (.int .i64 2))]⟩,
      ⟨(some 38), (some (35, false)), .plain (.bin .neq (.tmp 37) (.const (.int .i64 0)))⟩,
      ⟨(some 39), none, .plain (.pick (.tmp 35) (.const (.bool true)) (.tmp 38))⟩,
      ⟨(some 40), none, .plain (.mov (.tmp 39))⟩,
      ⟨(some 41), (some (40, false)), .plain (.mov (.tmp 0))⟩,
      ⟨(some 42), (some (40, false)), .call 83 [(.tmp 41), (.const (.int .i64 22)), (.const (.int .i64 2))]⟩,
      ⟨(some 43), (some (40, false)), .plain (.bin .neq (.tmp 42) (.const (.int .i64 0)))⟩,
      ⟨(some 44), none, .plain (.pick (.tmp 40) (.const (.bool true)) (.tmp 43))⟩,
      ⟨(some 45), none, .plain (.mov (.tmp 44))⟩,
      ⟨(some 46), (some (45, false)), .plain (.mov (.tmp 0))⟩,
      ⟨(some 47), (some (45, false)), .call 83 [(.tmp 46), (.const (.int .i64 40)), (.const (.int .i64 4))]⟩,
      ⟨(some 48), (some (45, false)), .plain (.bin .neq (.tmp 47) (.const (.int .i64 0)))⟩,
      ⟨(some 49), none, .plain (.pick (.tmp 45) (.const (.bool true)) (.tmp 48))⟩])
   (.cond (.tmp 49)
    (.both (.seq [⟨(some 50), none, .plain (.build (.str [(.int .i64 0), (.int .i64 0), (.int .i64 0), (.int .i64 0), (.int .i64 0), (.int .i64 0), (.int .i64 0), (.int .i64 0)] [(0, 1), (1, 1), (2, 1), (3, 1), (4, 1), (5, 1), (6, 1), (7, 1)]) [])⟩,
       ⟨none, none, .plain (.store 8 (.tmp 2) (.tmp 50))⟩,
       ⟨(some 3), none, .plain (.mov (.const (.int .i64 11)))⟩])
    .ret)
    .skip))
  (.both (.seq [⟨(some 51), none, .plain (.mov (.tmp 0))⟩,
     ⟨(some 52), none, .call 83 [(.tmp 51), (.const (.int .i64 13)), (.const (.int .i64 1))]⟩,
     ⟨(some 53), none, .plain (.mov (.tmp 0))⟩,
     ⟨(some 54), none, .call 83 [(.tmp 53), (.const (.int .i64 14)), (.const (.int .i64 2))]⟩,
     ⟨(some 55), none, .plain (.mov (.tmp 0))⟩,
     ⟨(some 56), none, .call 83 [(.tmp 55), (.const (.int .i64 16)), (.const (.int .i64 1))]⟩,
     ⟨(some 57), none, .plain (.mov (.tmp 0))⟩,
     ⟨(some 58), none, .call 83 [(.tmp 57), (.const (.int .i64 32)), (.const (.int .i64 4))]⟩,
     ⟨(some 59), none, .plain (.mov (.tmp 0))⟩,
     ⟨(some 60), none, .call 83 [(.tmp 59), (.const (.int .i64 36)), (.const (.int .i64 4))]⟩,
     ⟨(some 61), none, .plain (.mov (.tmp 0))⟩,
     ⟨(some 62), none, .call 83 [(.tmp 61), (.const (.int .i64 44)), (.const (.int .i64 4))]⟩,
     ⟨(some 63), none, .plain (.mov (.tmp 0))⟩,
     ⟨(some 64), none, .call 83 [(.tmp 63), (.const (.int .i64 48)), (.const (.int .i64 2))]⟩,
     ⟨(some 65), none, .plain (.mov (.tmp 0))⟩,
     ⟨(some 66), none, .call 83 [(.tmp 65), (.const (.int .i64 50)), (.const (.int .i64 2))]⟩,
     ⟨(some 67), none, .plain (.build (.str [(.int .i64 0), (.int .i64 0), (.int .i64 0), (.int .i64 0), (.int .i64 0), (.int .i64 0), (.int .i64 0), (.int .i64 0)] [(0, 1), (1, 1), (2, 1), (3, 1), (4, 1), (5, 1), (6, 1), (7, 1)]) [(0, (.tmp 52)), (1, (.tmp 54)), (2, (.tmp 56)), (3, (.tmp 58)), (4, (.tmp 60)), (5, (.tmp 62)), (6, (.tmp 64)), (7, (.tmp 66))])⟩,
     ⟨(some 4), none, .plain (.alloc [(.int .i64 0), (.int .i64 0), (.int .i64 0), (.int .i64 0), (.int .i64 0), (.int .i64 0), (.int .i64 0), (.int .i64 0)])⟩,
     ⟨none, none, .plain (.store 8 (.tmp 4) (.tmp 67))⟩])
  (.both (.both (.seq [⟨(some 68), none, .plain (.load (some 8) (.tmp 4))⟩,
      ⟨(some 69), none, .call 73 [(.tmp 68)]⟩,
      ⟨(some 5), none, .plain (.mov (.tmp 69))⟩])
   (.both (.seq [⟨(some 70), none, .plain (.mov (.tmp 5))⟩,
      ⟨(some 71), none, .plain (.bin .neq (.tmp 70) (.const (.int .i64 0)))⟩])
   (.cond (.tmp 71)
    (.both (.seq [⟨(some 72), none, .plain (.build (.str [(.int .i64 0), (.int .i64 0), (.int .i64 0), (.int .i64 0), (.int .i64 0), (.int .i64 0), (.int .i64 0), (.int .i64 0)] [(0, 1), (1, 1), (2, 1), (3, 1), (4, 1), (5, 1), (6, 1), (7, 1)]) [])⟩,
       ⟨(some 73), none, .plain (.mov (.tmp 5))⟩,
       ⟨none, none, .plain (.store 8 (.tmp 2) (.tmp 72))⟩,
       ⟨(some 3), none, .plain (.mov (.tmp 73))⟩])
    .ret)
    .skip)))
  (.both (.seq [⟨(some 74), none, .plain (.load (some 8) (.tmp 4))⟩,
     ⟨none, none, .plain (.store 8 (.tmp 2) (.tmp 74))⟩,
     ⟨(some 3), none, .plain (.mov (.const (.int .i64 0)))⟩])
  .ret)))))))⟩
/-- fettle/fettleref01.Same -/
def a81 : AFunc := ⟨2, [.tmp 4],
  (.both (.seq [⟨(some 4), none, .plain (.mov (.const (.bool false)))⟩])
  (.both (.seq [⟨(some 5), none, .plain (.mov (.tmp 0))⟩,
     ⟨(some 6), none, .plain (.conv .b2s (.tmp 5))⟩,
     ⟨(some 7), none, .plain (.mov (.tmp 1))⟩,
     ⟨(some 8), none, .plain (.conv .b2s (.tmp 7))⟩,
     ⟨(some 9), none, .plain (.bin .eql (.tmp 6) (.tmp 8))⟩,
     ⟨(some 4), none, .plain (.mov (.tmp 9))⟩])
  .ret))⟩
/-- fettle/fettleref16.Counts -/
def a82 : AFunc := ⟨1, [.tmp 2, .tmp 3, .tmp 4],
  (.both (.seq [⟨(some 2), none, .plain (.mov (.const (.int .i64 0)))⟩,
     ⟨(some 3), none, .plain (.mov (.const (.int .i64 0)))⟩,
     ⟨(some 4), none, .plain (.mov (.const (.int .i64 0)))⟩])
  (.both (.both (.seq [⟨(some 5), none, .plain (.mov (.tmp 0))⟩,
      ⟨(some 6), none, .plain (.len .sl (.tmp 5))⟩,
      ⟨(some 7), none, .plain (.bin .neq (.tmp 6) (.const (.int .i64 512)))⟩])
   (.cond (.tmp 7)
    (.both (.seq [⟨(some 2), none, .plain (.mov (.const (.int .i64 0)))⟩,
       ⟨(some 3), none, .plain (.mov (.const (.int .i64 0)))⟩,
       ⟨(some 4), none, .plain (.mov (.const (.int .i64 4)))⟩])
    .ret)
    .skip))
  (.both (.both (.seq [⟨(some 8), none, .plain (.mov (.tmp 0))⟩,
      ⟨(some 9), none, .call 83 [(.tmp 8), (.const (.int .i64 0)), (.const (.int .i64 4))]⟩,
      ⟨(some 10), none, .plain (.bin .neq (.tmp 9) (.const (.int .i64 1096897106)))⟩,
      ⟨(some 11), none, .plain (.mov (.tmp 10))⟩,
      ⟨(some 12), (some (11, false)), .plain (.mov (.tmp 0))⟩,
      ⟨(some 13), (some (11, false)), .call 83 [(.tmp 12), (.const (.int .i64 484)), (.const (.int .i64 4))]⟩,
      ⟨(some 14), (some (11, false)), .plain (.bin .neq (.tmp 13) (.const (.int .i64 1631679090)))⟩,
      ⟨(some 15), none, .plain (.pick (.tmp 11) (.const (.bool true)) (.tmp 14))⟩,
      ⟨(some 16), none, .plain (.mov (.tmp 15))⟩,
      ⟨(some 17), (some (16, false)), .plain (.mov (.tmp 0))⟩,
      ⟨(some 18), (some (16, false)), .call 83 [(.tmp 17), (.const (.int .i64 508)), (.const (.int .i64 4))]⟩,
      ⟨(some 19), (some (16, false)), .plain (.bin .neq (.tmp 18) (.const (.int .i64 2857697280)))⟩,
      ⟨(some 20), none, .plain (.pick (.tmp 16) (.const (.bool true)) (.tmp 19))⟩])
   (.cond (.tmp 20)
    (.both (.seq [⟨(some 2), none, .plain (.mov (.const (.int .i64 0)))⟩,
       ⟨(some 3), none, .plain (.mov (.const (.int .i64 0)))⟩,
       ⟨(some 4), none, .plain (.mov (.const (.int .i64 10)))⟩])
    .ret)
    .skip))
  (.both (.seq [⟨(some 21), none, .plain (.mov (.tmp 0))⟩,
     ⟨(some 22), none, .call 83 [(.tmp 21), (.const (.int .i64 488)), (.const (.int .i64 4))]⟩,
     ⟨(some 23), none, .plain (.mov (.tmp 0))⟩,
     ⟨(some 24), none, .call 83 [(.tmp 23), (.const (.int .i64 492)), (.const (.int .i64 4))]⟩,
     ⟨(some 2), none, .plain (.mov (.tmp 22))⟩,
     ⟨(some 3), none, .plain (.mov (.tmp 24))⟩,
     ⟨(some 4), none, .plain (.mov (.const (.int .i64 0)))⟩])
  .ret))))⟩
/-- fettle/fettleref01.Int -/
def a83 : AFunc := ⟨3, [.tmp 6],
  (.both (.seq [⟨(some 6), none, .plain (.mov (.const (.int .i64 0)))⟩])
  (.both (.seq [⟨(some 10), none, .plain (.mov (.tmp 0))⟩,
     ⟨(some 11), none, .plain (.mov (.tmp 1))⟩,
     ⟨(some 12), none, .plain (.mov (.tmp 2))⟩,
     ⟨(some 13), none, .call 126 [(.tmp 10), (.tmp 11), (.tmp 12)]⟩,
     ⟨(some 9), none, .plain (.mov (.tmp 13))⟩,
     ⟨(some 14), none, .plain (.extract (.tmp 9) 0)⟩,
     ⟨(some 15), none, .plain (.extract (.tmp 9) 1)⟩,
     ⟨(some 7), none, .plain (.mov (.tmp 14))⟩,
     ⟨(some 8), none, .plain (.mov (.tmp 15))⟩])
  (.both (.seq [⟨(some 16), none, .plain (.mov (.tmp 7))⟩,
     ⟨(some 17), none, .plain (.conv (.int .i64) (.tmp 16))⟩,
     ⟨(some 6), none, .plain (.mov (.tmp 17))⟩])
  .ret)))⟩
/-- fettle/fettleref16.free -/
def a84 : AFunc := ⟨1, [.tmp 2],
  (.both (.seq [⟨(some 2), none, .plain (.mov (.const (.int .i64 0)))⟩])
  (.both (.seq [⟨(some 3), none, .plain (.mov (.const (.int .i64 0)))⟩])
  (.both (.both (.seq [⟨(some 4), none, .plain (.mov (.const (.int .i64 2)))⟩])
   (.block 0 (.loop (.both (.both (.seq [⟨(some 5), none, .plain (.mov (.tmp 4))⟩,
         ⟨(some 6), none, .plain (.mov (.tmp 0))⟩,
         ⟨(some 7), none, .plain (.len .sl (.tmp 6))⟩,
         ⟨(some 8), none, .plain (.bin .lss (.tmp 5) (.tmp 7))⟩])
      (.cond (.tmp 8)
       .skip
       (.exit 0)))
     (.both (.block 1 (.both (.seq [⟨(some 11), none, .plain (.mov (.tmp 0))⟩,
          ⟨(some 12), none, .plain (.mov (.tmp 4))⟩,
          ⟨(some 13), none, .plain (.iaddr none 1 (.tmp 11) (.tmp 12))⟩,
          ⟨(some 14), none, .plain (.load none (.tmp 13))⟩,
          ⟨(some 15), none, .plain (.bin .eql (.tmp 14) (.const (.int .i64 0)))⟩])
       (.cond (.tmp 15)
        (.seq [⟨(some 16), none, .plain (.mov (.tmp 3))⟩,
          ⟨(some 17), none, .plain (.bin .add (.tmp 16) (.const (.int .i64 1)))⟩,
          ⟨(some 3), none, .plain (.mov (.tmp 17))⟩])
        .skip)))
     (.seq [⟨(some 9), none, .plain (.mov (.tmp 4))⟩,
       ⟨(some 10), none, .plain (.bin .add (.tmp 9) (.const (.int .i64 1)))⟩,
       ⟨(some 4), none, .plain (.mov (.tmp 10))⟩]))))))
  (.both (.seq [⟨(some 18), none, .plain (.mov (.tmp 3))⟩,
     ⟨(some 2), none, .plain (.mov (.tmp 18))⟩])
  .ret))))⟩
/-- fettle/octet.U32 -/
def a116 : AFunc := ⟨2, [.tmp 4, .tmp 5],
  (.both (.seq [⟨(some 4), none, .plain (.mov (.const (.int .u32 0)))⟩,
     ⟨(some 5), none, .plain (.mov (.const (.bool false)))⟩])
  (.both (.seq [⟨(some 6), none, .plain (.mov (.tmp 0))⟩,
     ⟨(some 7), none, .plain (.mov (.tmp 1))⟩,
     ⟨(some 8), none, .call 154 [(.tmp 6), (.tmp 7), (.const (.int .i64 4))]⟩,
     ⟨(some 9), none, .plain (.extract (.tmp 8) 0)⟩,
     ⟨(some 10), none, .plain (.extract (.tmp 8) 1)⟩,
     ⟨(some 4), none, .plain (.mov (.tmp 9))⟩,
     ⟨(some 5), none, .plain (.mov (.tmp 10))⟩])
  .ret))⟩
/-- fettle/octet.U16 -/
def a117 : AFunc := ⟨2, [.tmp 4, .tmp 5],
  (.both (.seq [⟨(some 4), none, .plain (.mov (.const (.int .u16 0)))⟩,
     ⟨(some 5), none, .plain (.mov (.const (.bool false)))⟩])
  (.both (.seq [⟨(some 6), none, .plain (.mov (.tmp 0))⟩,
     ⟨(some 7), none, .plain (.mov (.tmp 1))⟩,
     ⟨(some 8), none, .call 155 [(.tmp 6), (.tmp 7), (.const (.int .i64 2))]⟩,
     ⟨(some 9), none, .plain (.extract (.tmp 8) 0)⟩,
     ⟨(some 10), none, .plain (.extract (.tmp 8) 1)⟩,
     ⟨(some 4), none, .plain (.mov (.tmp 9))⟩,
     ⟨(some 5), none, .plain (.mov (.tmp 10))⟩])
  .ret))⟩
/-- fettle/octet.put[uint16] -/
def a118 : AFunc := ⟨4, [.tmp 8],
  (.both (.seq [⟨(some 8), none, .plain (.mov (.const (.bool false)))⟩])
  (.both (.both (.seq [⟨(some 10), none, .plain (.mov (.tmp 0))⟩,
      ⟨(some 11), none, .plain (.mov (.tmp 1))⟩,
      ⟨(some 12), none, .plain (.mov (.tmp 2))⟩,
      ⟨(some 13), none, .call 119 [(.tmp 10), (.tmp 11), (.tmp 12)]⟩,
      ⟨(some 14), none, .plain (.un .not (.tmp 13))⟩])
   (.cond (.tmp 14)
    (.both (.seq [⟨(some 8), none, .plain (.mov (.const (.bool false)))⟩])
    .ret)
    .skip))
  (.both (.both (.seq [⟨(some 15), none, .plain (.mov (.tmp 2))⟩,
      ⟨(some 16), none, .plain (.mov (.const (.int .i64 0)))⟩])
   (.block 0 (.loop (.both (.seq [⟨(some 17), none, .plain (.bin .lss (.tmp 16) (.tmp 15))⟩])
     (.both (.cond (.tmp 17)
       .skip
       (.exit 0))
     (.both (.block 1 (.both (.seq [⟨(some 18), none, .plain (.mov (.tmp 16))⟩,
          ⟨(some 9), none, .plain (.mov (.tmp 18))⟩])
       (.both (.seq [⟨(some 19), none, .plain (.mov (.tmp 0))⟩,
          ⟨(some 20), none, .plain (.mov (.tmp 1))⟩,
          ⟨(some 21), none, .plain (.mov (.tmp 9))⟩,
          ⟨(some 22), none, .plain (.bin .add (.tmp 20) (.tmp 21))⟩,
          ⟨(some 23), none, .plain (.mov (.tmp 3))⟩,
          ⟨(some 24), none, .plain (.conv (.int .u8) (.tmp 23))⟩,
          ⟨(some 25), none, .plain (.iaddr none 1 (.tmp 19) (.tmp 22))⟩,
          ⟨none, none, .plain (.store 1 (.tmp 25) (.tmp 24))⟩])
       (.seq [⟨(some 26), none, .plain (.mov (.tmp 3))⟩,
         ⟨(some 27), none, .plain (.bin .shr (.tmp 26) (.const (.int .u64 8)))⟩,
         ⟨(some 3), none, .plain (.mov (.tmp 27))⟩]))))
     (.seq [⟨(some 28), none, .plain (.bin .add (.tmp 16) (.const (.int .i64 1)))⟩,
       ⟨(some 16), none, .plain (.mov (.tmp 28))⟩])))))))
  (.both (.seq [⟨(some 8), none, .plain (.mov (.const (.bool true)))⟩])
  .ret))))⟩
/-- fettle/octet.in -/
def a119 : AFunc := ⟨3, [.tmp 6],
  (.both (.seq [⟨(some 6), none, .plain (.mov (.const (.bool false)))⟩])
  (.both (.seq [⟨(some 7), none, .plain (.mov (.tmp 1))⟩,
     ⟨(some 8), none, .plain (.bin .geq (.tmp 7) (.const (.int .i64 0)))⟩,
     ⟨(some 9), none, .plain (.mov (.tmp 8))⟩,
     ⟨(some 10), (some (9, true)), .plain (.mov (.tmp 2))⟩,
     ⟨(some 11), (some (9, true)), .plain (.bin .geq (.tmp 10) (.const (.int .i64 0)))⟩,
     ⟨(some 12), none, .plain (.pick (.tmp 9) (.tmp 11) (.const (.bool false)))⟩,
     ⟨(some 13), none, .plain (.mov (.tmp 12))⟩,
     ⟨(some 14), (some (13, true)), .plain (.mov (.tmp 1))⟩,
     ⟨(some 15), (some (13, true)), .plain (.mov (.tmp 0))⟩,
     ⟨(some 16), (some (13, true)), .plain (.len .sl (.tmp 15))⟩,
     ⟨(some 17), (some (13, true)), .plain (.bin .leq (.tmp 14) (.tmp 16))⟩,
     ⟨(some 18), none, .plain (.pick (.tmp 13) (.tmp 17) (.const (.bool false)))⟩,
     ⟨(some 19), none, .plain (.mov (.tmp 18))⟩,
     ⟨(some 20), (some (19, true)), .plain (.mov (.tmp 2))⟩,
     ⟨(some 21), (some (19, true)), .plain (.mov (.tmp 0))⟩,
     ⟨(some 22), (some (19, true)), .plain (.len .sl (.tmp 21))⟩,
     ⟨(some 23), (some (19, true)), .plain (.mov (.tmp 1))⟩,
     ⟨(some 24), (some (19, true)), .plain (.bin .sub (.tmp 22) (.tmp 23))⟩,
     ⟨(some 25), (some (19, true)), .plain (.bin .leq (.tmp 20) (.tmp 24))⟩,
     ⟨(some 26), none, .plain (.pick (.tmp 19) (.tmp 25) (.const (.bool false)))⟩,
     ⟨(some 6), none, .plain (.mov (.tmp 26))⟩])
  .ret))⟩
/-- (fettle/fettleref16.Boot).Data -/
def a125 : AFunc := ⟨1, [.tmp 2],
  (.both (.seq [⟨(some 1), none, .plain (.box (.tmp 0))⟩,
     ⟨(some 2), none, .plain (.mov (.const (.int .i64 0)))⟩])
  (.both (.seq [⟨(some 3), none, .plain (.faddr 1 (.tmp 1))⟩,
     ⟨(some 4), none, .plain (.load none (.tmp 3))⟩,
     ⟨(some 5), none, .plain (.faddr 2 (.tmp 1))⟩,
     ⟨(some 6), none, .plain (.load none (.tmp 5))⟩,
     ⟨(some 7), none, .plain (.faddr 4 (.tmp 1))⟩,
     ⟨(some 8), none, .plain (.load none (.tmp 7))⟩,
     ⟨(some 9), none, .plain (.bin .mul (.tmp 6) (.tmp 8))⟩,
     ⟨(some 10), none, .plain (.bin .add (.tmp 4) (.tmp 9))⟩,
     ⟨(some 2), none, .plain (.mov (.tmp 10))⟩])
  .ret))⟩
/-- fettle/fettleref01.Num -/
def a126 : AFunc := ⟨3, [.tmp 6, .tmp 7],
  (.both (.seq [⟨(some 6), none, .plain (.mov (.const (.int .u64 0)))⟩,
     ⟨(some 7), none, .plain (.mov (.const (.bool false)))⟩])
  (.both (.both (.seq [⟨(some 11), none, .plain (.mov (.tmp 0))⟩,
      ⟨(some 12), none, .plain (.mov (.tmp 1))⟩,
      ⟨(some 13), none, .plain (.mov (.tmp 2))⟩,
      ⟨(some 14), none, .call 156 [(.tmp 11), (.tmp 12), (.tmp 13)]⟩,
      ⟨(some 15), none, .plain (.un .not (.tmp 14))⟩])
   (.cond (.tmp 15)
    (.both (.seq [⟨(some 6), none, .plain (.mov (.const (.int .u64 0)))⟩,
       ⟨(some 7), none, .plain (.mov (.const (.bool false)))⟩])
    .ret)
    .skip))
  (.both (.seq [⟨(some 8), none, .plain (.mov (.const (.int .u64 0)))⟩])
  (.both (.seq [⟨(some 9), none, .plain (.mov (.const (.int .u64 1)))⟩])
  (.both (.both (.seq [⟨(some 10), none, .plain (.mov (.const (.int .i64 0)))⟩])
   (.block 0 (.loop (.both (.both (.seq [⟨(some 16), none, .plain (.mov (.tmp 10))⟩,
         ⟨(some 17), none, .plain (.mov (.tmp 2))⟩,
         ⟨(some 18), none, .plain (.bin .lss (.tmp 16) (.tmp 17))⟩])
      (.cond (.tmp 18)
       .skip
       (.exit 0)))
     (.both (.block 1 (.both (.seq [⟨(some 21), none, .plain (.mov (.tmp 8))⟩,
          ⟨(some 22), none, .plain (.mov (.tmp 0))⟩,
          ⟨(some 23), none, .plain (.mov (.tmp 1))⟩,
          ⟨(some 24), none, .plain (.mov (.tmp 10))⟩,
          ⟨(some 25), none, .plain (.bin .add (.tmp 23) (.tmp 24))⟩,
          ⟨(some 26), none, .plain (.iaddr none 1 (.tmp 22) (.tmp 25))⟩,
          ⟨(some 27), none, .plain (.load none (.tmp 26))⟩,
          ⟨(some 28), none, .plain (.conv (.int .u64) (.tmp 27))⟩,
          ⟨(some 29), none, .plain (.mov (.tmp 9))⟩,
          ⟨(some 30), none, .plain (.bin .mul (.tmp 28) (.tmp 29))⟩,
          ⟨(some 31), none, .plain (.bin .add (.tmp 21) (.tmp 30))⟩,
          ⟨(some 8), none, .plain (.mov (.tmp 31))⟩])
       (.seq [⟨(some 32), none, .plain (.mov (.tmp 9))⟩,
         ⟨(some 33), none, .plain (.bin .mul (.tmp 32) (.const (.int .u64 256)))⟩,
         ⟨(some 9), none, .plain (.mov (.tmp 33))⟩])))
     (.seq [⟨(some 19), none, .plain (.mov (.tmp 10))⟩,
       ⟨(some 20), none, .plain (.bin .add (.tmp 19) (.const (.int .i64 1)))⟩,
       ⟨(some 10), none, .plain (.mov (.tmp 20))⟩]))))))
  (.both (.seq [⟨(some 34), none, .plain (.mov (.tmp 8))⟩,
     ⟨(some 6), none, .plain (.mov (.tmp 34))⟩,
     ⟨(some 7), none, .plain (.mov (.const (.bool true)))⟩])
  .ret))))))⟩
/-- fettle/octet.little[uint32] -/
def a154 : AFunc := ⟨3, [.tmp 6, .tmp 7],
  (.both (.seq [⟨(some 6), none, .plain (.mov (.const (.int .u32 0)))⟩,
     ⟨(some 7), none, .plain (.mov (.const (.bool false)))⟩])
  (.both (.seq [⟨(some 8), none, .plain (.mov (.const (.int .u32 0)))⟩])
  (.both (.both (.seq [⟨(some 10), none, .plain (.mov (.tmp 0))⟩,
      ⟨(some 11), none, .plain (.mov (.tmp 1))⟩,
      ⟨(some 12), none, .plain (.mov (.tmp 2))⟩,
      ⟨(some 13), none, .call 119 [(.tmp 10), (.tmp 11), (.tmp 12)]⟩,
      ⟨(some 14), none, .plain (.un .not (.tmp 13))⟩])
   (.cond (.tmp 14)
    (.both (.seq [⟨(some 6), none, .plain (.mov (.const (.int .u32 0)))⟩,
       ⟨(some 7), none, .plain (.mov (.const (.bool false)))⟩])
    .ret)
    .skip))
  (.both (.both (.seq [⟨(some 15), none, .plain (.mov (.tmp 2))⟩,
      ⟨(some 16), none, .plain (.bin .sub (.tmp 15) (.const (.int .i64 1)))⟩,
      ⟨(some 9), none, .plain (.mov (.tmp 16))⟩])
   (.block 0 (.loop (.both (.both (.seq [⟨(some 17), none, .plain (.mov (.tmp 9))⟩,
         ⟨(some 18), none, .plain (.bin .geq (.tmp 17) (.const (.int .i64 0)))⟩])
      (.cond (.tmp 18)
       .skip
       (.exit 0)))
     (.both (.block 1 (.seq [⟨(some 21), none, .plain (.mov (.tmp 8))⟩,
         ⟨(some 22), none, .plain (.bin .shl (.tmp 21) (.const (.int .u64 8)))⟩,
         ⟨(some 23), none, .plain (.mov (.tmp 0))⟩,
         ⟨(some 24), none, .plain (.mov (.tmp 1))⟩,
         ⟨(some 25), none, .plain (.mov (.tmp 9))⟩,
         ⟨(some 26), none, .plain (.bin .add (.tmp 24) (.tmp 25))⟩,
         ⟨(some 27), none, .plain (.iaddr none 1 (.tmp 23) (.tmp 26))⟩,
         ⟨(some 28), none, .plain (.load none (.tmp 27))⟩,
         ⟨(some 29), none, .plain (.conv (.int .u32) (.tmp 28))⟩,
         ⟨(some 30), none, .plain (.bin .or (.tmp 22) (.tmp 29))⟩,
         ⟨(some 8), none, .plain (.mov (.tmp 30))⟩]))
     (.seq [⟨(some 19), none, .plain (.mov (.tmp 9))⟩,
       ⟨(some 20), none, .plain (.bin .sub (.tmp 19) (.const (.int .i64 1)))⟩,
       ⟨(some 9), none, .plain (.mov (.tmp 20))⟩]))))))
  (.both (.seq [⟨(some 31), none, .plain (.mov (.tmp 8))⟩,
     ⟨(some 6), none, .plain (.mov (.tmp 31))⟩,
     ⟨(some 7), none, .plain (.mov (.const (.bool true)))⟩])
  .ret)))))⟩
/-- fettle/octet.little[uint16] -/
def a155 : AFunc := ⟨3, [.tmp 6, .tmp 7],
  (.both (.seq [⟨(some 6), none, .plain (.mov (.const (.int .u16 0)))⟩,
     ⟨(some 7), none, .plain (.mov (.const (.bool false)))⟩])
  (.both (.seq [⟨(some 8), none, .plain (.mov (.const (.int .u16 0)))⟩])
  (.both (.both (.seq [⟨(some 10), none, .plain (.mov (.tmp 0))⟩,
      ⟨(some 11), none, .plain (.mov (.tmp 1))⟩,
      ⟨(some 12), none, .plain (.mov (.tmp 2))⟩,
      ⟨(some 13), none, .call 119 [(.tmp 10), (.tmp 11), (.tmp 12)]⟩,
      ⟨(some 14), none, .plain (.un .not (.tmp 13))⟩])
   (.cond (.tmp 14)
    (.both (.seq [⟨(some 6), none, .plain (.mov (.const (.int .u16 0)))⟩,
       ⟨(some 7), none, .plain (.mov (.const (.bool false)))⟩])
    .ret)
    .skip))
  (.both (.both (.seq [⟨(some 15), none, .plain (.mov (.tmp 2))⟩,
      ⟨(some 16), none, .plain (.bin .sub (.tmp 15) (.const (.int .i64 1)))⟩,
      ⟨(some 9), none, .plain (.mov (.tmp 16))⟩])
   (.block 0 (.loop (.both (.both (.seq [⟨(some 17), none, .plain (.mov (.tmp 9))⟩,
         ⟨(some 18), none, .plain (.bin .geq (.tmp 17) (.const (.int .i64 0)))⟩])
      (.cond (.tmp 18)
       .skip
       (.exit 0)))
     (.both (.block 1 (.seq [⟨(some 21), none, .plain (.mov (.tmp 8))⟩,
         ⟨(some 22), none, .plain (.bin .shl (.tmp 21) (.const (.int .u64 8)))⟩,
         ⟨(some 23), none, .plain (.mov (.tmp 0))⟩,
         ⟨(some 24), none, .plain (.mov (.tmp 1))⟩,
         ⟨(some 25), none, .plain (.mov (.tmp 9))⟩,
         ⟨(some 26), none, .plain (.bin .add (.tmp 24) (.tmp 25))⟩,
         ⟨(some 27), none, .plain (.iaddr none 1 (.tmp 23) (.tmp 26))⟩,
         ⟨(some 28), none, .plain (.load none (.tmp 27))⟩,
         ⟨(some 29), none, .plain (.conv (.int .u16) (.tmp 28))⟩,
         ⟨(some 30), none, .plain (.bin .or (.tmp 22) (.tmp 29))⟩,
         ⟨(some 8), none, .plain (.mov (.tmp 30))⟩]))
     (.seq [⟨(some 19), none, .plain (.mov (.tmp 9))⟩,
       ⟨(some 20), none, .plain (.bin .sub (.tmp 19) (.const (.int .i64 1)))⟩,
       ⟨(some 9), none, .plain (.mov (.tmp 20))⟩]))))))
  (.both (.seq [⟨(some 31), none, .plain (.mov (.tmp 8))⟩,
     ⟨(some 6), none, .plain (.mov (.tmp 31))⟩,
     ⟨(some 7), none, .plain (.mov (.const (.bool true)))⟩])
  .ret)))))⟩
/-- fettle/fettleref01.In -/
def a156 : AFunc := ⟨3, [.tmp 6],
  (.both (.seq [⟨(some 6), none, .plain (.mov (.const (.bool false)))⟩])
  (.both (.seq [⟨(some 7), none, .plain (.mov (.tmp 1))⟩,
     ⟨(some 8), none, .plain (.bin .geq (.tmp 7) (.const (.int .i64 0)))⟩,
     ⟨(some 9), none, .plain (.mov (.tmp 8))⟩,
     ⟨(some 10), (some (9, true)), .plain (.mov (.tmp 2))⟩,
     ⟨(some 11), (some (9, true)), .plain (.bin .geq (.tmp 10) (.const (.int .i64 0)))⟩,
     ⟨(some 12), none, .plain (.pick (.tmp 9) (.tmp 11) (.const (.bool false)))⟩,
     ⟨(some 13), none, .plain (.mov (.tmp 12))⟩,
     ⟨(some 14), (some (13, true)), .plain (.mov (.tmp 1))⟩,
     ⟨(some 15), (some (13, true)), .plain (.mov (.tmp 0))⟩,
     ⟨(some 16), (some (13, true)), .plain (.len .sl (.tmp 15))⟩,
     ⟨(some 17), (some (13, true)), .plain (.bin .leq (.tmp 14) (.tmp 16))⟩,
     ⟨(some 18), none, .plain (.pick (.tmp 13) (.tmp 17) (.const (.bool false)))⟩,
     ⟨(some 19), none, .plain (.mov (.tmp 18))⟩,
     ⟨(some 20), (some (19, true)), .plain (.mov (.tmp 0))⟩,
     ⟨(some 21), (some (19, true)), .plain (.len .sl (.tmp 20))⟩,
     ⟨(some 22), (some (19, true)), .plain (.mov (.tmp 1))⟩,
     ⟨(some 23), (some (19, true)), .plain (.bin .sub (.tmp 21) (.tmp 22))⟩,
     ⟨(some 24), (some (19, true)), .plain (.mov (.tmp 2))⟩,
     ⟨(some 25), (some (19, true)), .plain (.bin .geq (.tmp 23) (.tmp 24))⟩,
     ⟨(some 26), none, .plain (.pick (.tmp 19) (.tmp 25) (.const (.bool false)))⟩,
     ⟨(some 6), none, .plain (.mov (.tmp 26))⟩])
  .ret))⟩
/-- (fettle/parts.Mem).Read -/
def a200 : AFunc := ⟨3, [.tmp 6, .tmp 7],
  (.both (.seq [⟨(some 6), none, .plain (.mov (.const (.slice none 0 0)))⟩,
     ⟨(some 7), none, .plain (.mov (.const (.int .i64 0)))⟩])
  (.both (.both (.seq [⟨(some 8), none, .plain (.mov (.tmp 1))⟩,
      ⟨(some 9), none, .plain (.bin .lss (.tmp 8) (.const (.int .i64 0)))⟩,
      ⟨(some 10), none, .plain (.mov (.tmp 9))⟩,
      ⟨(some 11), (some (10, false)), .plain (.mov (.tmp 2))⟩,
      ⟨(some 12), (some (10, false)), .plain (.bin .lss (.tmp 11) (.const (.int .i64 0)))⟩,
      ⟨(some 13), none, .plain (.pick (.tmp 10) (.const (.bool true)) (.tmp 12))⟩,
      ⟨(some 14), none, .plain (.mov (.tmp 13))⟩,
      ⟨(some 15), (some (14, false)), .plain (.mov (.tmp 1))⟩,
      ⟨(some 16), (some (14, false)), .plain (.mov (.tmp 0))⟩,
      ⟨(some 17), (some (14, false)), .call 201 [(.tmp 16)]⟩,
      ⟨(some 18), (some (14, false)), .plain (.bin .gtr (.tmp 15) (.tmp 17))⟩,
      ⟨(some 19), none, .plain (.pick (.tmp 14) (.const (.bool true)) (.tmp 18))⟩,
      ⟨(some 20), none, .plain (.mov (.tmp 19))⟩,
      ⟨(some 21), (some (20, false)), .plain (.mov (.tmp 2))⟩,
      ⟨(some 22), (some (20, false)), .plain (.mov (.tmp 0))⟩,
      ⟨(some 23), (some (20, false)), .call 201 [(.tmp 22)]⟩,
      ⟨(some 24), (some (20, false)), .plain (.mov (.tmp 1))⟩,
      ⟨(some 25), (some (20, false)), .plain (.bin .sub (.tmp 23) (.tmp 24))⟩,
      ⟨(some 26), (some (20, false)), .plain (.bin .gtr (.tmp 21) (.tmp 25))⟩,
      ⟨(some 27), none, .plain (.pick (.tmp 20) (.const (.bool true)) (.tmp 26))⟩])
   (.cond (.tmp 27)
    (.both (.seq [⟨(some 6), none, .plain (.mov (.const (.slice none 0 0)))⟩,
       ⟨(some 7), none, .plain (.mov (.const (.int .i64 4)))⟩])
    .ret)
    .skip))
  (.both (.seq [⟨(some 28), none, .plain (.mov (.tmp 0))⟩,
     ⟨(some 29), none, .plain (.mov (.tmp 1))⟩,
     ⟨(some 30), none, .plain (.mov (.tmp 1))⟩,
     ⟨(some 31), none, .plain (.mov (.tmp 2))⟩,
     ⟨(some 32), none, .plain (.bin .add (.tmp 30) (.tmp 31))⟩,
     ⟨(some 33), none, .plain (.cut (.sl 1) (.tmp 28) (some (.tmp 29)) (some (.tmp 32)) none)⟩,
     ⟨(some 34), none, .plain (.append ⟨1, 1, [(.int .u8 0)]⟩ false (.const (.slice none 0 0)) (.tmp 33))⟩,
     ⟨(some 6), none, .plain (.mov (.tmp 34))⟩,
     ⟨(some 7), none, .plain (.mov (.const (.int .i64 0)))⟩])
  .ret)))⟩
/-- (fettle/parts.Mem).Size -/
def a201 : AFunc := ⟨1, [.tmp 2],
  (.both (.seq [⟨(some 2), none, .plain (.mov (.const (.int .i64 0)))⟩])
  (.both (.seq [⟨(some 3), none, .plain (.mov (.tmp 0))⟩,
     ⟨(some 4), none, .plain (.len .sl (.tmp 3))⟩,
     ⟨(some 2), none, .plain (.mov (.tmp 4))⟩])
  .ret))⟩
def tabL : List (FuncId × AEntry) := [(3, .code a3), (4, .code a4), (5, .code a5), (6, .code a6), (7, .code a7), (8, .code a8), (9, .code a9), (10, .code a10), (17, .code a17), (18, .code a18), (19, .code a19), (20, .code a20), (21, .code a21), (22, .code a22), (23, .code a23), (25, .code a25), (33, .code a33), (34, .code a34), (35, .code a35), (55, .code a55), (56, .code a56), (57, .code a57), (58, .code a58), (59, .code a59), (60, .code a60), (61, .code a61), (73, .code a73), (74, .code a74), (75, .code a75), (76, .code a76), (77, .code a77), (78, .code a78), (79, .code a79), (80, .code a80), (81, .code a81), (82, .code a82), (83, .code a83), (84, .code a84), (116, .code a116), (117, .code a117), (118, .code a118), (119, .code a119), (125, .code a125), (126, .code a126), (154, .code a154), (155, .code a155), (156, .code a156), (200, .code a200), (201, .code a201)]
def tab : Tr AEntry := (.node none (.node none (.node (some (.code a3)) (.node (some (.code a7)) (.node none .leaf (.node none (.node (some (.code a79)) .leaf .leaf) .leaf)) (.node (some (.code a23)) .leaf (.node (some (.code a55)) .leaf (.node (some (.code a119)) .leaf .leaf)))) (.node none (.node (some (.code a19)) (.node (some (.code a35)) .leaf .leaf) (.node none (.node (some (.code a83)) .leaf .leaf) .leaf)) (.node none (.node none (.node (some (.code a75)) .leaf .leaf) .leaf) (.node (some (.code a59)) (.node none (.node (some (.code a155)) .leaf .leaf) .leaf) .leaf)))) (.node (some (.code a5)) (.node (some (.code a9)) (.node (some (.code a17)) (.node (some (.code a33)) .leaf .leaf) (.node none (.node (some (.code a81)) .leaf .leaf) .leaf)) (.node (some (.code a25)) (.node none (.node (some (.code a73)) .leaf (.node (some (.code a201)) .leaf .leaf)) .leaf) (.node (some (.code a57)) .leaf .leaf))) (.node none (.node (some (.code a21)) .leaf (.node none .leaf (.node (some (.code a117)) .leaf .leaf))) (.node none (.node none (.node (some (.code a77)) .leaf .leaf) .leaf) (.node (some (.code a61)) .leaf (.node (some (.code a125)) .leaf .leaf)))))) (.node none (.node (some (.code a4)) (.node (some (.code a8)) (.node none .leaf (.node none (.node (some (.code a80)) .leaf .leaf) .leaf)) (.node none (.node none (.node none .leaf (.node (some (.code a200)) .leaf .leaf)) .leaf) (.node (some (.code a56)) .leaf .leaf))) (.node none (.node (some (.code a20)) .leaf (.node none (.node (some (.code a84)) .leaf .leaf) (.node (some (.code a116)) .leaf .leaf))) (.node none (.node none (.node (some (.code a76)) .leaf .leaf) .leaf) (.node (some (.code a60)) (.node none (.node (some (.code a156)) .leaf .leaf) .leaf) .leaf)))) (.node (some (.code a6)) (.node (some (.code a10)) (.node (some (.code a18)) (.node (some (.code a34)) .leaf .leaf) (.node none (.node (some (.code a82)) .leaf .leaf) .leaf)) (.node none (.node none (.node (some (.code a74)) .leaf .leaf) .leaf) (.node (some (.code a58)) (.node none (.node (some (.code a154)) .leaf .leaf) .leaf) .leaf))) (.node none (.node (some (.code a22)) .leaf (.node none .leaf (.node (some (.code a118)) .leaf .leaf))) (.node none (.node none (.node (some (.code a78)) .leaf .leaf) .leaf) (.node none .leaf (.node (some (.code a126)) .leaf .leaf)))))))
theorem ok3 : callOk Tryz.prog 3 = true ∧ compF Tryz.prog 3 = some a3 := ⟨by kernel_rfl, by kernel_rfl⟩
theorem ok4 : callOk Tryz.prog 4 = true ∧ compF Tryz.prog 4 = some a4 := ⟨by kernel_rfl, by kernel_rfl⟩
theorem ok5 : callOk Tryz.prog 5 = true ∧ compF Tryz.prog 5 = some a5 := ⟨by kernel_rfl, by kernel_rfl⟩
theorem ok6 : callOk Tryz.prog 6 = true ∧ compF Tryz.prog 6 = some a6 := ⟨by kernel_rfl, by kernel_rfl⟩
theorem ok7 : callOk Tryz.prog 7 = true ∧ compF Tryz.prog 7 = some a7 := ⟨by kernel_rfl, by kernel_rfl⟩
theorem ok8 : callOk Tryz.prog 8 = true ∧ compF Tryz.prog 8 = some a8 := ⟨by kernel_rfl, by kernel_rfl⟩
theorem ok9 : callOk Tryz.prog 9 = true ∧ compF Tryz.prog 9 = some a9 := ⟨by kernel_rfl, by kernel_rfl⟩
theorem ok10 : callOk Tryz.prog 10 = true ∧ compF Tryz.prog 10 = some a10 := ⟨by kernel_rfl, by kernel_rfl⟩
theorem ok17 : callOk Tryz.prog 17 = true ∧ compF Tryz.prog 17 = some a17 := ⟨by kernel_rfl, by kernel_rfl⟩
theorem ok18 : callOk Tryz.prog 18 = true ∧ compF Tryz.prog 18 = some a18 := ⟨by kernel_rfl, by kernel_rfl⟩
theorem ok19 : callOk Tryz.prog 19 = true ∧ compF Tryz.prog 19 = some a19 := ⟨by kernel_rfl, by kernel_rfl⟩
theorem ok20 : callOk Tryz.prog 20 = true ∧ compF Tryz.prog 20 = some a20 := ⟨by kernel_rfl, by kernel_rfl⟩
theorem ok21 : callOk Tryz.prog 21 = true ∧ compF Tryz.prog 21 = some a21 := ⟨by kernel_rfl, by kernel_rfl⟩
theorem ok22 : callOk Tryz.prog 22 = true ∧ compF Tryz.prog 22 = some a22 := ⟨by kernel_rfl, by kernel_rfl⟩
theorem ok23 : callOk Tryz.prog 23 = true ∧ compF Tryz.prog 23 = some a23 := ⟨by kernel_rfl, by kernel_rfl⟩
theorem ok25 : callOk Tryz.prog 25 = true ∧ compF Tryz.prog 25 = some a25 := ⟨by kernel_rfl, by kernel_rfl⟩
theorem ok33 : callOk Tryz.prog 33 = true ∧ compF Tryz.prog 33 = some a33 := ⟨by kernel_rfl, by kernel_rfl⟩
theorem ok34 : callOk Tryz.prog 34 = true ∧ compF Tryz.prog 34 = some a34 := ⟨by kernel_rfl, by kernel_rfl⟩
theorem ok35 : callOk Tryz.prog 35 = true ∧ compF Tryz.prog 35 = some a35 := ⟨by kernel_rfl, by kernel_rfl⟩
theorem ok55 : callOk Tryz.prog 55 = true ∧ compF Tryz.prog 55 = some a55 := ⟨by kernel_rfl, by kernel_rfl⟩
theorem ok56 : callOk Tryz.prog 56 = true ∧ compF Tryz.prog 56 = some a56 := ⟨by kernel_rfl, by kernel_rfl⟩
theorem ok57 : callOk Tryz.prog 57 = true ∧ compF Tryz.prog 57 = some a57 := ⟨by kernel_rfl, by kernel_rfl⟩
theorem ok58 : callOk Tryz.prog 58 = true ∧ compF Tryz.prog 58 = some a58 := ⟨by kernel_rfl, by kernel_rfl⟩
theorem ok59 : callOk Tryz.prog 59 = true ∧ compF Tryz.prog 59 = some a59 := ⟨by kernel_rfl, by kernel_rfl⟩
theorem ok60 : callOk Tryz.prog 60 = true ∧ compF Tryz.prog 60 = some a60 := ⟨by kernel_rfl, by kernel_rfl⟩
theorem ok61 : callOk Tryz.prog 61 = true ∧ compF Tryz.prog 61 = some a61 := ⟨by kernel_rfl, by kernel_rfl⟩
theorem ok73 : callOk Tryz.prog 73 = true ∧ compF Tryz.prog 73 = some a73 := ⟨by kernel_rfl, by kernel_rfl⟩
theorem ok74 : callOk Tryz.prog 74 = true ∧ compF Tryz.prog 74 = some a74 := ⟨by kernel_rfl, by kernel_rfl⟩
theorem ok75 : callOk Tryz.prog 75 = true ∧ compF Tryz.prog 75 = some a75 := ⟨by kernel_rfl, by kernel_rfl⟩
theorem ok76 : callOk Tryz.prog 76 = true ∧ compF Tryz.prog 76 = some a76 := ⟨by kernel_rfl, by kernel_rfl⟩
theorem ok77 : callOk Tryz.prog 77 = true ∧ compF Tryz.prog 77 = some a77 := ⟨by kernel_rfl, by kernel_rfl⟩
theorem ok78 : callOk Tryz.prog 78 = true ∧ compF Tryz.prog 78 = some a78 := ⟨by kernel_rfl, by kernel_rfl⟩
theorem ok79 : callOk Tryz.prog 79 = true ∧ compF Tryz.prog 79 = some a79 := ⟨by kernel_rfl, by kernel_rfl⟩
theorem ok80 : callOk Tryz.prog 80 = true ∧ compF Tryz.prog 80 = some a80 := ⟨by kernel_rfl, by kernel_rfl⟩
theorem ok81 : callOk Tryz.prog 81 = true ∧ compF Tryz.prog 81 = some a81 := ⟨by kernel_rfl, by kernel_rfl⟩
theorem ok82 : callOk Tryz.prog 82 = true ∧ compF Tryz.prog 82 = some a82 := ⟨by kernel_rfl, by kernel_rfl⟩
theorem ok83 : callOk Tryz.prog 83 = true ∧ compF Tryz.prog 83 = some a83 := ⟨by kernel_rfl, by kernel_rfl⟩
theorem ok84 : callOk Tryz.prog 84 = true ∧ compF Tryz.prog 84 = some a84 := ⟨by kernel_rfl, by kernel_rfl⟩
theorem ok116 : callOk Tryz.prog 116 = true ∧ compF Tryz.prog 116 = some a116 := ⟨by kernel_rfl, by kernel_rfl⟩
theorem ok117 : callOk Tryz.prog 117 = true ∧ compF Tryz.prog 117 = some a117 := ⟨by kernel_rfl, by kernel_rfl⟩
theorem ok118 : callOk Tryz.prog 118 = true ∧ compF Tryz.prog 118 = some a118 := ⟨by kernel_rfl, by kernel_rfl⟩
theorem ok119 : callOk Tryz.prog 119 = true ∧ compF Tryz.prog 119 = some a119 := ⟨by kernel_rfl, by kernel_rfl⟩
theorem ok125 : callOk Tryz.prog 125 = true ∧ compF Tryz.prog 125 = some a125 := ⟨by kernel_rfl, by kernel_rfl⟩
theorem ok126 : callOk Tryz.prog 126 = true ∧ compF Tryz.prog 126 = some a126 := ⟨by kernel_rfl, by kernel_rfl⟩
theorem ok154 : callOk Tryz.prog 154 = true ∧ compF Tryz.prog 154 = some a154 := ⟨by kernel_rfl, by kernel_rfl⟩
theorem ok155 : callOk Tryz.prog 155 = true ∧ compF Tryz.prog 155 = some a155 := ⟨by kernel_rfl, by kernel_rfl⟩
theorem ok156 : callOk Tryz.prog 156 = true ∧ compF Tryz.prog 156 = some a156 := ⟨by kernel_rfl, by kernel_rfl⟩
theorem ok200 : callOk Tryz.prog 200 = true ∧ compF Tryz.prog 200 = some a200 := ⟨by kernel_rfl, by kernel_rfl⟩
theorem ok201 : callOk Tryz.prog 201 = true ∧ compF Tryz.prog 201 = some a201 := ⟨by kernel_rfl, by kernel_rfl⟩
theorem tabOk : TabSound Tryz.prog (fun f => tab.get f) := tr_sound (l := tabL) (by kernel_rfl) ⟨ok3, ok4, ok5, ok6, ok7, ok8, ok9, ok10, ok17, ok18, ok19, ok20, ok21, ok22, ok23, ok25, ok33, ok34, ok35, ok55, ok56, ok57, ok58, ok59, ok60, ok61, ok73, ok74, ok75, ok76, ok77, ok78, ok79, ok80, ok81, ok82, ok83, ok84, ok116, ok117, ok118, ok119, ok125, ok126, ok154, ok155, ok156, ok200, ok201, trivial⟩
theorem follows : Tryz.prog.follows .mixedOrders = true := by kernel_rfl
end Go.Proofs.YtjjmpfkjbehdoaaGreat.AMC
