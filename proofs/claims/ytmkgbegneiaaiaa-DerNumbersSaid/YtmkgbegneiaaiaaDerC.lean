/- The functions of the seat as the engine sees them. -/
import Derived.Test.YtmkgbegneiaaiaaEngR
import Derived.Test.YtmkgbegneiaaiaaChecked
namespace Go.Proofs.Ytmkgbegneiaaiaa
open Go.Eng
noncomputable abbrev P0 : Program := Try.prog
noncomputable def G0 : Nat → AV := fun _ => .any
/-- gosem.cut.init -/
noncomputable def c2 : C :=
  (.reg [⟨(some 0), none, .bad⟩])
theorem fn2 : FnC P0 G0 [] 2 = some (1, [], c2) := by kernel_rfl
/-- cartouche/cartouchelaw12.DerPuts -/
noncomputable def c3 : C :=
  (.seq
   (.reg [⟨(some 4), none, .mv (.c (.bool false))⟩])
   (.seq
    (.seq
     (.reg [⟨(some 9), none, .call 11 []⟩,
       ⟨(some 10), none, .un .not (.t 9)⟩])
     (.cond (.t 10)
      (.seq
       (.reg [⟨(some 4), none, .mv (.c (.bool false))⟩])
       .ret)
      .skip))
    (.seq
     (.reg [⟨(some 5), none, .mv (.c (.sl .nil 1 []))⟩])
     (.seq
      (.reg [⟨(some 6), none, .mv (.c (.int .i64 0))⟩])
      (.seq
       (.seq
        (.reg [⟨(some 11), none, .mv (.t 1)⟩,
          ⟨(some 12), none, .len (.t 11)⟩,
          ⟨(some 13), none, .mv (.c (.int .i64 0))⟩])
        (.block 0
         (.loop
          (.seq
           (.reg [⟨(some 14), none, .bin .lss (.t 13) (.t 12)⟩])
           (.seq
            (.cond (.t 14)
             .skip
             (.exit 0))
            (.seq
             (.block 1
              (.seq
               (.reg [⟨(some 15), none, .idxA 1 (.t 11) (.t 13)⟩,
                 ⟨(some 16), none, .load 1 false (.t 15)⟩,
                 ⟨(some 8), none, .mv (.t 16)⟩])
               (.seq
                (.seq
                 (.reg [⟨(some 17), none, .mv (.t 6)⟩,
                   ⟨(some 18), none, .mv (.t 8)⟩,
                   ⟨(some 19), none, .len (.t 18)⟩,
                   ⟨(some 20), none, .bin .add (.c (.int .i64 1)) (.t 19)⟩,
                   ⟨(some 21), none, .bin .add (.t 17) (.t 20)⟩,
                   ⟨(some 6), none, .mv (.t 21)⟩])
                 (.seq
                  (.reg [⟨(some 22), none, .mv (.t 6)⟩,
                    ⟨(some 23), none, .bin .gtr (.t 22) (.c (.int .i64 200000))⟩])
                  (.cond (.t 23)
                   (.seq
                    (.reg [⟨(some 4), none, .mv (.c (.bool true))⟩])
                    .ret)
                   .skip)))
                (.reg [⟨(some 24), none, .mv (.t 5)⟩,
                  ⟨(some 25), none, .mv (.t 8)⟩,
                  ⟨(some 26), none, .app 1 1 (.t 24) (.t 25)⟩,
                  ⟨(some 5), none, .mv (.t 26)⟩]))))
             (.reg [⟨(some 27), none, .bin .add (.t 13) (.c (.int .i64 1))⟩,
               ⟨(some 13), none, .mv (.t 27)⟩])))))))
       (.seq
        (.reg [⟨(some 28), none, .mv (.t 0)⟩,
          ⟨(some 29), none, .mv (.t 1)⟩,
          ⟨(some 32), none, .mv (.t 0)⟩,
          ⟨(some 33), none, .mv (.t 5)⟩,
          ⟨(some 30), none, .call 12 [(.t 28), (.t 29)]⟩,
          ⟨(some 31), none, .b2s (.t 30)⟩,
          ⟨(some 34), none, .call 13 [(.t 32), (.t 33)]⟩,
          ⟨(some 35), none, .b2s (.t 34)⟩,
          ⟨(some 36), none, .sbin .eql (.t 31) (.t 35)⟩,
          ⟨(some 4), none, .mv (.t 36)⟩])
        .ret))))))
theorem fn3 : FnC P0 G0 [] 3 = some (37, [.t 4], c3) := by kernel_rfl
/-- cartouche/cartouchelaw12.DerGets -/
noncomputable def c4 : C :=
  (.seq
   (.reg [⟨(some 2), none, .mv (.c (.bool false))⟩])
   (.seq
    (.seq
     (.reg [⟨(some 10), none, .call 11 []⟩,
       ⟨(some 11), none, .un .not (.t 10)⟩])
     (.cond (.t 11)
      (.seq
       (.reg [⟨(some 2), none, .mv (.c (.bool false))⟩])
       .ret)
      .skip))
    (.seq
     (.seq
      (.reg [⟨(some 12), none, .mv (.t 0)⟩,
        ⟨(some 13), none, .len (.t 12)⟩,
        ⟨(some 14), none, .bin .gtr (.t 13) (.c (.int .i64 5000))⟩])
      (.cond (.t 14)
       (.seq
        (.reg [⟨(some 2), none, .mv (.c (.bool true))⟩])
        .ret)
       .skip))
     (.seq
      (.reg [⟨(some 16), none, .mv (.t 0)⟩,
        ⟨(some 17), none, .call 14 [(.t 16)]⟩,
        ⟨(some 15), none, .mv (.t 17)⟩,
        ⟨(some 18), none, .ext (.t 15) 0⟩,
        ⟨(some 19), none, .ext (.t 15) 1⟩,
        ⟨(some 20), none, .ext (.t 15) 2⟩,
        ⟨(some 21), none, .ext (.t 15) 3⟩,
        ⟨(some 3), none, .mv (.t 18)⟩,
        ⟨(some 4), none, .mv (.t 19)⟩,
        ⟨(some 5), none, .mv (.t 20)⟩,
        ⟨(some 6), none, .mv (.t 21)⟩])
      (.seq
       (.reg [⟨(some 23), none, .mv (.t 0)⟩,
         ⟨(some 24), none, .call 15 [(.t 23)]⟩,
         ⟨(some 22), none, .mv (.t 24)⟩,
         ⟨(some 25), none, .ext (.t 22) 0⟩,
         ⟨(some 26), none, .ext (.t 22) 1⟩,
         ⟨(some 27), none, .ext (.t 22) 2⟩,
         ⟨(some 7), none, .mv (.t 25)⟩,
         ⟨(some 8), none, .mv (.t 26)⟩,
         ⟨(some 9), none, .mv (.t 27)⟩])
       (.seq
        (.seq
         (.reg [⟨(some 28), none, .mv (.t 9)⟩,
           ⟨(some 29), none, .un .not (.t 28)⟩])
         (.cond (.t 29)
          (.seq
           (.reg [⟨(some 30), none, .mv (.t 6)⟩,
             ⟨(some 31), none, .bin .eql (.t 30) (.c (.int .i64 3))⟩,
             ⟨(some 32), none, .mv (.t 31)⟩,
             ⟨(some 33), (some (32, true)), .mv (.t 3)⟩,
             ⟨(some 34), (some (32, true)), .bin .eql (.t 33) (.c (.int .u8 0))⟩,
             ⟨(some 35), none, .pick (.t 32) (.t 34) (.c (.bool false))⟩,
             ⟨(some 36), none, .mv (.t 35)⟩,
             ⟨(some 37), (some (36, true)), .mv (.t 4)⟩,
             ⟨(some 38), (some (36, true)), .len (.t 37)⟩,
             ⟨(some 39), (some (36, true)), .mv (.t 5)⟩,
             ⟨(some 40), (some (36, true)), .len (.t 39)⟩,
             ⟨(some 41), (some (36, true)), .bin .add (.t 38) (.t 40)⟩,
             ⟨(some 42), (some (36, true)), .bin .eql (.t 41) (.c (.int .i64 0))⟩,
             ⟨(some 43), none, .pick (.t 36) (.t 42) (.c (.bool false))⟩,
             ⟨(some 2), none, .mv (.t 43)⟩])
           .ret)
          .skip))
        (.seq
         (.reg [⟨(some 44), none, .mv (.t 6)⟩,
           ⟨(some 45), none, .bin .eql (.t 44) (.c (.int .i64 0))⟩,
           ⟨(some 46), none, .mv (.t 45)⟩,
           ⟨(some 47), (some (46, true)), .mv (.t 3)⟩,
           ⟨(some 48), (some (46, true)), .mv (.t 0)⟩,
           ⟨(some 49), (some (46, true)), .idxA 1 (.t 48) (.c (.int .i64 0))⟩,
           ⟨(some 50), (some (46, true)), .load 1 false (.t 49)⟩,
           ⟨(some 51), (some (46, true)), .bin .eql (.t 47) (.t 50)⟩,
           ⟨(some 52), none, .pick (.t 46) (.t 51) (.c (.bool false))⟩,
           ⟨(some 53), none, .mv (.t 52)⟩,
           ⟨(some 54), (some (53, true)), .mv (.t 4)⟩,
           ⟨(some 55), (some (53, true)), .b2s (.t 54)⟩,
           ⟨(some 56), (some (53, true)), .mv (.t 0)⟩,
           ⟨(some 57), (some (53, true)), .mv (.t 7)⟩,
           ⟨(some 58), (some (53, true)), .mv (.t 7)⟩,
           ⟨(some 59), (some (53, true)), .mv (.t 8)⟩,
           ⟨(some 60), (some (53, true)), .bin .add (.t 58) (.t 59)⟩,
           ⟨(some 61), (some (53, true)), .slice 1 (.t 56) (some (.t 57)) (some (.t 60)) none⟩,
           ⟨(some 62), (some (53, true)), .b2s (.t 61)⟩,
           ⟨(some 63), (some (53, true)), .sbin .eql (.t 55) (.t 62)⟩,
           ⟨(some 64), none, .pick (.t 53) (.t 63) (.c (.bool false))⟩,
           ⟨(some 65), none, .mv (.t 64)⟩,
           ⟨(some 66), (some (65, true)), .mv (.t 5)⟩,
           ⟨(some 67), (some (65, true)), .b2s (.t 66)⟩,
           ⟨(some 68), (some (65, true)), .mv (.t 0)⟩,
           ⟨(some 69), (some (65, true)), .mv (.t 7)⟩,
           ⟨(some 70), (some (65, true)), .mv (.t 8)⟩,
           ⟨(some 71), (some (65, true)), .bin .add (.t 69) (.t 70)⟩,
           ⟨(some 72), (some (65, true)), .slice 1 (.t 68) (some (.t 71)) none none⟩,
           ⟨(some 73), (some (65, true)), .b2s (.t 72)⟩,
           ⟨(some 74), (some (65, true)), .sbin .eql (.t 67) (.t 73)⟩,
           ⟨(some 75), none, .pick (.t 65) (.t 74) (.c (.bool false))⟩,
           ⟨(some 2), none, .mv (.t 75)⟩])
         .ret)))))))
theorem fn4 : FnC P0 G0 [] 4 = some (76, [.t 2], c4) := by kernel_rfl
/-- cartouche/cartouchelaw12.DerShort -/
noncomputable def c5 : C :=
  (.seq
   (.reg [⟨(some 2), none, .mv (.c (.bool false))⟩])
   (.seq
    (.seq
     (.reg [⟨(some 7), none, .call 11 []⟩,
       ⟨(some 8), none, .un .not (.t 7)⟩])
     (.cond (.t 8)
      (.seq
       (.reg [⟨(some 2), none, .mv (.c (.bool false))⟩])
       .ret)
      .skip))
    (.seq
     (.seq
      (.reg [⟨(some 9), none, .mv (.t 0)⟩,
        ⟨(some 10), none, .len (.t 9)⟩,
        ⟨(some 11), none, .bin .gtr (.t 10) (.c (.int .i64 5000))⟩])
      (.cond (.t 11)
       (.seq
        (.reg [⟨(some 2), none, .mv (.c (.bool true))⟩])
        .ret)
       .skip))
     (.seq
      (.reg [⟨(some 13), none, .mv (.t 0)⟩,
        ⟨(some 14), none, .call 14 [(.t 13)]⟩,
        ⟨(some 12), none, .mv (.t 14)⟩,
        ⟨(some 15), none, .ext (.t 12) 0⟩,
        ⟨(some 16), none, .ext (.t 12) 1⟩,
        ⟨(some 17), none, .ext (.t 12) 2⟩,
        ⟨(some 18), none, .ext (.t 12) 3⟩,
        ⟨(some 3), none, .mv (.t 15)⟩,
        ⟨(some 4), none, .mv (.t 16)⟩,
        ⟨(some 5), none, .mv (.t 17)⟩,
        ⟨(some 6), none, .mv (.t 18)⟩])
      (.seq
       (.reg [⟨(some 19), none, .mv (.t 6)⟩,
         ⟨(some 20), none, .bin .neq (.t 19) (.c (.int .i64 0))⟩,
         ⟨(some 21), none, .mv (.t 20)⟩,
         ⟨(some 22), (some (21, false)), .mv (.t 5)⟩,
         ⟨(some 23), (some (21, false)), .len (.t 22)⟩,
         ⟨(some 24), (some (21, false)), .mv (.t 0)⟩,
         ⟨(some 25), (some (21, false)), .len (.t 24)⟩,
         ⟨(some 26), (some (21, false)), .bin .leq (.t 23) (.t 25)⟩,
         ⟨(some 27), (some (21, false)), .mv (.t 26)⟩,
         ⟨(some 28), (some (27, true)), .mv (.t 3)⟩,
         ⟨(some 29), (some (27, true)), .mv (.t 4)⟩,
         ⟨(some 30), (some (27, true)), .bsl true 5030 1 1 [(.sl .nil 1 [])] [(0, 1, (.t 29))]⟩,
         ⟨(some 33), (some (27, true)), .mv (.t 0)⟩,
         ⟨(some 34), (some (27, true)), .mv (.t 0)⟩,
         ⟨(some 35), (some (27, true)), .len (.t 34)⟩,
         ⟨(some 36), (some (27, true)), .mv (.t 5)⟩,
         ⟨(some 37), (some (27, true)), .len (.t 36)⟩,
         ⟨(some 38), (some (27, true)), .bin .sub (.t 35) (.t 37)⟩,
         ⟨(some 39), (some (27, true)), .slice 1 (.t 33) none (some (.t 38)) none⟩,
         ⟨(some 40), (some (27, true)), .b2s (.t 39)⟩,
         ⟨(some 31), (some (27, true)), .call 12 [(.t 28), (.t 30)]⟩,
         ⟨(some 32), (some (27, true)), .b2s (.t 31)⟩,
         ⟨(some 41), (some (27, true)), .sbin .eql (.t 32) (.t 40)⟩,
         ⟨(some 42), (some (21, false)), .pick (.t 27) (.t 41) (.c (.bool false))⟩,
         ⟨(some 43), none, .pick (.t 21) (.c (.bool true)) (.t 42)⟩,
         ⟨(some 2), none, .mv (.t 43)⟩])
       .ret)))))
theorem fn5 : FnC P0 G0 [] 5 = some (44, [.t 2], c5) := by kernel_rfl
/-- cartouche/cartouchelaw12.DerNumbers -/
noncomputable def c6 : C :=
  (.seq
   (.reg [⟨(some 4), none, .mv (.c (.bool false))⟩])
   (.seq
    (.seq
     (.reg [⟨(some 17), none, .call 11 []⟩,
       ⟨(some 18), none, .un .not (.t 17)⟩])
     (.cond (.t 18)
      (.seq
       (.reg [⟨(some 4), none, .mv (.c (.bool false))⟩])
       .ret)
      .skip))
    (.seq
     (.seq
      (.reg [⟨(some 19), none, .mv (.t 1)⟩,
        ⟨(some 20), none, .len (.t 19)⟩,
        ⟨(some 21), none, .bin .gtr (.t 20) (.c (.int .i64 300))⟩])
      (.cond (.t 21)
       (.seq
        (.reg [⟨(some 4), none, .mv (.c (.bool true))⟩])
        .ret)
       .skip))
     (.seq
      (.reg [⟨(some 22), none, .mv (.t 0)⟩,
        ⟨(some 23), none, .shf .shr (.t 22) (.c (.int .u64 56))⟩,
        ⟨(some 24), none, .cvt .u8 (.t 23)⟩,
        ⟨(some 25), none, .mv (.t 0)⟩,
        ⟨(some 26), none, .shf .shr (.t 25) (.c (.int .u64 48))⟩,
        ⟨(some 27), none, .cvt .u8 (.t 26)⟩,
        ⟨(some 28), none, .mv (.t 0)⟩,
        ⟨(some 29), none, .shf .shr (.t 28) (.c (.int .u64 40))⟩,
        ⟨(some 30), none, .cvt .u8 (.t 29)⟩,
        ⟨(some 31), none, .mv (.t 0)⟩,
        ⟨(some 32), none, .shf .shr (.t 31) (.c (.int .u64 32))⟩,
        ⟨(some 33), none, .cvt .u8 (.t 32)⟩,
        ⟨(some 34), none, .mv (.t 0)⟩,
        ⟨(some 35), none, .shf .shr (.t 34) (.c (.int .u64 24))⟩,
        ⟨(some 36), none, .cvt .u8 (.t 35)⟩,
        ⟨(some 37), none, .mv (.t 0)⟩,
        ⟨(some 38), none, .shf .shr (.t 37) (.c (.int .u64 16))⟩,
        ⟨(some 39), none, .cvt .u8 (.t 38)⟩,
        ⟨(some 40), none, .mv (.t 0)⟩,
        ⟨(some 41), none, .shf .shr (.t 40) (.c (.int .u64 8))⟩,
        ⟨(some 42), none, .cvt .u8 (.t 41)⟩,
        ⟨(some 43), none, .mv (.t 0)⟩,
        ⟨(some 44), none, .cvt .u8 (.t 43)⟩,
        ⟨(some 45), none, .bsl true 6045 8 1 [(.int .u8 0)] [(0, 1, (.t 24)), (1, 1, (.t 27)), (2, 1, (.t 30)), (3, 1, (.t 33)), (4, 1, (.t 36)), (5, 1, (.t 39)), (6, 1, (.t 42)), (7, 1, (.t 44))]⟩,
        ⟨(some 5), none, .mv (.t 45)⟩])
      (.seq
       (.reg [⟨(some 47), none, .mv (.t 1)⟩,
         ⟨(some 48), none, .call 16 [(.t 47)]⟩,
         ⟨(some 46), none, .mv (.t 48)⟩,
         ⟨(some 49), none, .ext (.t 46) 0⟩,
         ⟨(some 50), none, .ext (.t 46) 1⟩,
         ⟨(some 6), none, .mv (.t 49)⟩,
         ⟨(some 7), none, .mv (.t 50)⟩])
       (.seq
        (.reg [⟨(some 52), none, .mv (.t 1)⟩,
          ⟨(some 53), none, .call 17 [(.t 52)]⟩,
          ⟨(some 51), none, .mv (.t 53)⟩,
          ⟨(some 54), none, .ext (.t 51) 0⟩,
          ⟨(some 55), none, .ext (.t 51) 1⟩,
          ⟨(some 8), none, .mv (.t 54)⟩,
          ⟨(some 9), none, .mv (.t 55)⟩])
        (.seq
         (.seq
          (.reg [⟨(some 56), none, .mv (.t 0)⟩,
            ⟨(some 59), none, .mv (.t 5)⟩,
            ⟨(some 57), none, .call 18 [(.t 56)]⟩,
            ⟨(some 58), none, .b2s (.t 57)⟩,
            ⟨(some 60), none, .call 19 [(.t 59)]⟩,
            ⟨(some 61), none, .b2s (.t 60)⟩,
            ⟨(some 62), none, .sbin .neq (.t 58) (.t 61)⟩,
            ⟨(some 63), none, .mv (.t 62)⟩,
            ⟨(some 64), (some (63, false)), .mv (.t 1)⟩,
            ⟨(some 67), (some (63, false)), .mv (.t 1)⟩,
            ⟨(some 65), (some (63, false)), .call 20 [(.t 64)]⟩,
            ⟨(some 66), (some (63, false)), .b2s (.t 65)⟩,
            ⟨(some 68), (some (63, false)), .call 19 [(.t 67)]⟩,
            ⟨(some 69), (some (63, false)), .b2s (.t 68)⟩,
            ⟨(some 70), (some (63, false)), .sbin .neq (.t 66) (.t 69)⟩,
            ⟨(some 71), none, .pick (.t 63) (.c (.bool true)) (.t 70)⟩,
            ⟨(some 72), none, .mv (.t 71)⟩,
            ⟨(some 73), (some (72, false)), .mv (.t 7)⟩,
            ⟨(some 74), (some (72, false)), .mv (.t 9)⟩,
            ⟨(some 75), (some (72, false)), .eqb true (.t 73) (.t 74)⟩,
            ⟨(some 76), none, .pick (.t 72) (.c (.bool true)) (.t 75)⟩,
            ⟨(some 77), none, .mv (.t 76)⟩,
            ⟨(some 78), (some (77, false)), .mv (.t 6)⟩,
            ⟨(some 79), (some (77, false)), .b2s (.t 78)⟩,
            ⟨(some 80), (some (77, false)), .mv (.t 8)⟩,
            ⟨(some 81), (some (77, false)), .b2s (.t 80)⟩,
            ⟨(some 82), (some (77, false)), .sbin .neq (.t 79) (.t 81)⟩,
            ⟨(some 83), none, .pick (.t 77) (.c (.bool true)) (.t 82)⟩])
          (.cond (.t 83)
           (.seq
            (.reg [⟨(some 4), none, .mv (.c (.bool false))⟩])
            .ret)
           .skip))
         (.seq
          (.reg [⟨(some 85), none, .mv (.t 1)⟩,
            ⟨(some 86), none, .call 20 [(.t 85)]⟩,
            ⟨(some 87), none, .call 14 [(.t 86)]⟩,
            ⟨(some 84), none, .mv (.t 87)⟩,
            ⟨(some 88), none, .ext (.t 84) 0⟩,
            ⟨(some 89), none, .ext (.t 84) 1⟩,
            ⟨(some 90), none, .ext (.t 84) 2⟩,
            ⟨(some 91), none, .ext (.t 84) 3⟩,
            ⟨(some 10), none, .mv (.t 88)⟩,
            ⟨(some 11), none, .mv (.t 89)⟩,
            ⟨(some 12), none, .mv (.t 90)⟩,
            ⟨(some 13), none, .mv (.t 91)⟩])
          (.seq
           (.reg [⟨(some 93), none, .mv (.t 11)⟩,
             ⟨(some 94), none, .call 16 [(.t 93)]⟩,
             ⟨(some 92), none, .mv (.t 94)⟩,
             ⟨(some 95), none, .ext (.t 92) 0⟩,
             ⟨(some 96), none, .ext (.t 92) 1⟩,
             ⟨(some 14), none, .mv (.t 95)⟩,
             ⟨(some 15), none, .mv (.t 96)⟩])
           (.seq
            (.reg [⟨(some 16), none, .mv (.c (.int .i64 0))⟩])
            (.seq
             (.block 0
              (.loop
               (.seq
                (.seq
                 (.reg [⟨(some 97), none, .mv (.t 16)⟩,
                   ⟨(some 98), none, .mv (.t 1)⟩,
                   ⟨(some 99), none, .len (.t 98)⟩,
                   ⟨(some 100), none, .bin .lss (.t 97) (.t 99)⟩,
                   ⟨(some 101), none, .mv (.t 100)⟩,
                   ⟨(some 102), (some (101, true)), .mv (.t 1)⟩,
                   ⟨(some 103), (some (101, true)), .mv (.t 16)⟩,
                   ⟨(some 104), (some (101, true)), .idxA 1 (.t 102) (.t 103)⟩,
                   ⟨(some 105), (some (101, true)), .load 1 false (.t 104)⟩,
                   ⟨(some 106), (some (101, true)), .bin .eql (.t 105) (.c (.int .u8 0))⟩,
                   ⟨(some 107), none, .pick (.t 101) (.t 106) (.c (.bool false))⟩])
                 (.cond (.t 107)
                  .skip
                  (.exit 0)))
                (.block 1
                 (.reg [⟨(some 108), none, .mv (.t 16)⟩,
                   ⟨(some 109), none, .bin .add (.t 108) (.c (.int .i64 1))⟩,
                   ⟨(some 16), none, .mv (.t 109)⟩])))))
             (.seq
              (.reg [⟨(some 110), none, .mv (.t 13)⟩,
                ⟨(some 111), none, .bin .eql (.t 110) (.c (.int .i64 0))⟩,
                ⟨(some 112), none, .mv (.t 111)⟩,
                ⟨(some 113), (some (112, true)), .mv (.t 15)⟩,
                ⟨(some 114), none, .pick (.t 112) (.t 113) (.c (.bool false))⟩,
                ⟨(some 115), none, .mv (.t 114)⟩,
                ⟨(some 116), (some (115, true)), .mv (.t 14)⟩,
                ⟨(some 117), (some (115, true)), .b2s (.t 116)⟩,
                ⟨(some 118), (some (115, true)), .mv (.t 1)⟩,
                ⟨(some 119), (some (115, true)), .mv (.t 16)⟩,
                ⟨(some 120), (some (115, true)), .slice 1 (.t 118) (some (.t 119)) none none⟩,
                ⟨(some 121), (some (115, true)), .b2s (.t 120)⟩,
                ⟨(some 122), (some (115, true)), .sbin .eql (.t 117) (.t 121)⟩,
                ⟨(some 123), none, .pick (.t 115) (.t 122) (.c (.bool false))⟩,
                ⟨(some 4), none, .mv (.t 123)⟩])
              .ret))))))))))))
theorem fn6 : FnC P0 G0 [] 6 = some (124, [.t 4], c6) := by kernel_rfl
/-- cartouche/cartouchelaw12.DerReads -/
noncomputable def c7 : C :=
  (.seq
   (.reg [⟨(some 6), none, .mv (.c (.bool false))⟩])
   (.seq
    (.seq
     (.reg [⟨(some 14), none, .call 11 []⟩,
       ⟨(some 15), none, .un .not (.t 14)⟩])
     (.cond (.t 15)
      (.seq
       (.reg [⟨(some 6), none, .mv (.c (.bool false))⟩])
       .ret)
      .skip))
    (.seq
     (.reg [⟨(some 16), none, .mv (.t 0)⟩,
       ⟨(some 17), none, .len (.t 16)⟩,
       ⟨(some 18), none, .mv (.t 1)⟩,
       ⟨(some 19), none, .len (.t 18)⟩,
       ⟨(some 20), none, .mm false (.t 17) (.t 19)⟩,
       ⟨(some 7), none, .mv (.t 20)⟩])
     (.seq
      (.seq
       (.reg [⟨(some 21), none, .mv (.t 7)⟩,
         ⟨(some 22), none, .bin .gtr (.t 21) (.c (.int .i64 50))⟩])
       (.cond (.t 22)
        (.seq
         (.reg [⟨(some 6), none, .mv (.c (.bool true))⟩])
         .ret)
        .skip))
      (.seq
       (.reg [⟨(some 8), none, .mv (.c (.sl .nil 1 []))⟩])
       (.seq
        (.seq
         (.reg [⟨(some 23), none, .mv (.t 7)⟩,
           ⟨(some 24), none, .mv (.c (.int .i64 0))⟩])
         (.block 0
          (.loop
           (.seq
            (.reg [⟨(some 25), none, .bin .lss (.t 24) (.t 23)⟩])
            (.seq
             (.cond (.t 25)
              .skip
              (.exit 0))
             (.seq
              (.block 1
               (.seq
                (.reg [⟨(some 26), none, .mv (.t 24)⟩,
                  ⟨(some 9), none, .mv (.t 26)⟩])
                (.seq
                 (.seq
                  (.reg [⟨(some 27), none, .mv (.t 0)⟩,
                    ⟨(some 28), none, .mv (.t 9)⟩,
                    ⟨(some 29), none, .idxA 1 (.t 27) (.t 28)⟩,
                    ⟨(some 30), none, .load 1 false (.t 29)⟩,
                    ⟨(some 31), none, .bin .rem (.t 30) (.c (.int .u8 32))⟩,
                    ⟨(some 32), none, .bin .eql (.t 31) (.c (.int .u8 31))⟩,
                    ⟨(some 33), none, .mv (.t 32)⟩,
                    ⟨(some 34), (some (33, false)), .mv (.t 1)⟩,
                    ⟨(some 35), (some (33, false)), .mv (.t 9)⟩,
                    ⟨(some 36), (some (33, false)), .idxA 1 (.t 34) (.t 35)⟩,
                    ⟨(some 37), (some (33, false)), .load 1 false (.t 36)⟩,
                    ⟨(some 38), (some (33, false)), .len (.t 37)⟩,
                    ⟨(some 39), (some (33, false)), .bin .gtr (.t 38) (.c (.int .i64 1000))⟩,
                    ⟨(some 40), none, .pick (.t 33) (.c (.bool true)) (.t 39)⟩])
                  (.cond (.t 40)
                   (.seq
                    (.reg [⟨(some 6), none, .mv (.c (.bool true))⟩])
                    .ret)
                   .skip))
                 (.reg [⟨(some 41), none, .mv (.t 8)⟩,
                   ⟨(some 42), none, .mv (.t 0)⟩,
                   ⟨(some 43), none, .mv (.t 9)⟩,
                   ⟨(some 44), none, .idxA 1 (.t 42) (.t 43)⟩,
                   ⟨(some 45), none, .load 1 false (.t 44)⟩,
                   ⟨(some 46), none, .mv (.t 1)⟩,
                   ⟨(some 47), none, .mv (.t 9)⟩,
                   ⟨(some 48), none, .idxA 1 (.t 46) (.t 47)⟩,
                   ⟨(some 49), none, .load 1 false (.t 48)⟩,
                   ⟨(some 50), none, .bsl true 7050 1 1 [(.sl .nil 1 [])] [(0, 1, (.t 49))]⟩,
                   ⟨(some 51), none, .call 12 [(.t 45), (.t 50)]⟩,
                   ⟨(some 52), none, .app 1 1 (.t 41) (.t 51)⟩,
                   ⟨(some 8), none, .mv (.t 52)⟩]))))
              (.reg [⟨(some 53), none, .bin .add (.t 24) (.c (.int .i64 1))⟩,
                ⟨(some 24), none, .mv (.t 53)⟩])))))))
        (.seq
         (.reg [⟨(some 54), none, .mv (.t 8)⟩,
           ⟨(some 55), none, .call 21 [(.t 54)]⟩,
           ⟨(some 10), none, .mv (.t 55)⟩])
         (.seq
          (.seq
           (.reg [⟨(some 56), none, .mv (.t 7)⟩,
             ⟨(some 57), none, .mv (.c (.int .i64 0))⟩])
           (.block 2
            (.loop
             (.seq
              (.reg [⟨(some 58), none, .bin .lss (.t 57) (.t 56)⟩])
              (.seq
               (.cond (.t 58)
                .skip
                (.exit 2))
               (.seq
                (.block 3
                 (.seq
                  (.reg [⟨(some 59), none, .mv (.t 57)⟩,
                    ⟨(some 11), none, .mv (.t 59)⟩])
                  (.seq
                   (.seq
                    (.reg [⟨(some 60), none, .mv (.t 10)⟩,
                      ⟨(some 61), none, .call 22 [(.t 60)]⟩,
                      ⟨(some 62), none, .mv (.t 61)⟩,
                      ⟨(some 63), (some (62, false)), .mv (.t 10)⟩,
                      ⟨(some 64), (some (62, false)), .mv (.t 0)⟩,
                      ⟨(some 65), (some (62, false)), .mv (.t 11)⟩,
                      ⟨(some 66), (some (62, false)), .idxA 1 (.t 64) (.t 65)⟩,
                      ⟨(some 67), (some (62, false)), .load 1 false (.t 66)⟩,
                      ⟨(some 68), (some (62, false)), .call 23 [(.t 63), (.t 67)]⟩,
                      ⟨(some 69), (some (62, false)), .un .not (.t 68)⟩,
                      ⟨(some 70), none, .pick (.t 62) (.c (.bool true)) (.t 69)⟩,
                      ⟨(some 71), none, .mv (.t 70)⟩,
                      ⟨(some 72), (some (71, false)), .mv (.t 10)⟩,
                      ⟨(some 73), (some (71, false)), .mv (.t 0)⟩,
                      ⟨(some 74), (some (71, false)), .mv (.t 11)⟩,
                      ⟨(some 75), (some (71, false)), .idxA 1 (.t 73) (.t 74)⟩,
                      ⟨(some 76), (some (71, false)), .load 1 false (.t 75)⟩,
                      ⟨(some 77), (some (71, false)), .bin .xor (.t 76) (.c (.int .u8 1))⟩,
                      ⟨(some 78), (some (71, false)), .call 23 [(.t 72), (.t 77)]⟩,
                      ⟨(some 79), none, .pick (.t 71) (.c (.bool true)) (.t 78)⟩])
                    (.cond (.t 79)
                     (.seq
                      (.reg [⟨(some 6), none, .mv (.c (.bool false))⟩])
                      .ret)
                     .skip))
                   (.seq
                    (.seq
                     (.reg [⟨(some 80), none, .mv (.t 11)⟩,
                       ⟨(some 81), none, .mv (.t 2)⟩,
                       ⟨(some 82), none, .bin .eql (.t 80) (.t 81)⟩])
                     (.cond (.t 82)
                      (.seq
                       (.reg [⟨(some 83), none, .mv (.t 10)⟩,
                         ⟨(some 84), none, .mv (.t 0)⟩,
                         ⟨(some 85), none, .mv (.t 11)⟩,
                         ⟨(some 86), none, .idxA 1 (.t 84) (.t 85)⟩,
                         ⟨(some 87), none, .load 1 false (.t 86)⟩,
                         ⟨(some 88), none, .bin .xor (.t 87) (.c (.int .u8 1))⟩,
                         ⟨(some 89), none, .call 24 [(.t 83), (.t 88)]⟩,
                         ⟨(some 90), none, .len (.t 89)⟩,
                         ⟨(some 91), none, .bin .eql (.t 90) (.c (.int .i64 0))⟩,
                         ⟨(some 92), none, .mv (.t 91)⟩,
                         ⟨(some 93), (some (92, true)), .mv (.t 10)⟩,
                         ⟨(some 94), (some (92, true)), .call 22 [(.t 93)]⟩,
                         ⟨(some 95), (some (92, true)), .un .not (.t 94)⟩,
                         ⟨(some 96), none, .pick (.t 92) (.t 95) (.c (.bool false))⟩,
                         ⟨(some 97), none, .mv (.t 96)⟩,
                         ⟨(some 98), (some (97, true)), .mv (.t 10)⟩,
                         ⟨(some 99), (some (97, true)), .mv (.t 0)⟩,
                         ⟨(some 100), (some (97, true)), .mv (.t 11)⟩,
                         ⟨(some 101), (some (97, true)), .idxA 1 (.t 99) (.t 100)⟩,
                         ⟨(some 102), (some (97, true)), .load 1 false (.t 101)⟩,
                         ⟨(some 103), (some (97, true)), .call 23 [(.t 98), (.t 102)]⟩,
                         ⟨(some 104), (some (97, true)), .un .not (.t 103)⟩,
                         ⟨(some 105), none, .pick (.t 97) (.t 104) (.c (.bool false))⟩,
                         ⟨(some 106), none, .mv (.t 105)⟩,
                         ⟨(some 107), (some (106, true)), .mv (.t 10)⟩,
                         ⟨(some 108), (some (106, true)), .mv (.t 0)⟩,
                         ⟨(some 109), (some (106, true)), .mv (.t 11)⟩,
                         ⟨(some 110), (some (106, true)), .idxA 1 (.t 108) (.t 109)⟩,
                         ⟨(some 111), (some (106, true)), .load 1 false (.t 110)⟩,
                         ⟨(some 112), (some (106, true)), .call 24 [(.t 107), (.t 111)]⟩,
                         ⟨(some 113), (some (106, true)), .len (.t 112)⟩,
                         ⟨(some 114), (some (106, true)), .bin .eql (.t 113) (.c (.int .i64 0))⟩,
                         ⟨(some 115), none, .pick (.t 106) (.t 114) (.c (.bool false))⟩,
                         ⟨(some 116), none, .mv (.t 115)⟩,
                         ⟨(some 117), (some (116, true)), .mv (.t 10)⟩,
                         ⟨(some 118), (some (116, true)), .mv (.t 0)⟩,
                         ⟨(some 119), (some (116, true)), .mv (.t 11)⟩,
                         ⟨(some 120), (some (116, true)), .idxA 1 (.t 118) (.t 119)⟩,
                         ⟨(some 121), (some (116, true)), .load 1 false (.t 120)⟩,
                         ⟨(some 122), (some (116, true)), .call 25 [(.t 117), (.t 121)]⟩,
                         ⟨(some 123), (some (116, true)), .call 22 [(.t 122)]⟩,
                         ⟨(some 124), (some (116, true)), .un .not (.t 123)⟩,
                         ⟨(some 125), none, .pick (.t 116) (.t 124) (.c (.bool false))⟩,
                         ⟨(some 6), none, .mv (.t 125)⟩])
                       .ret)
                      .skip))
                    (.seq
                     (.reg [⟨(some 126), none, .mv (.t 10)⟩,
                       ⟨(some 127), none, .mv (.t 0)⟩,
                       ⟨(some 128), none, .mv (.t 11)⟩,
                       ⟨(some 129), none, .idxA 1 (.t 127) (.t 128)⟩,
                       ⟨(some 130), none, .load 1 false (.t 129)⟩,
                       ⟨(some 131), none, .pcall [] 24 [(.t 126), (.t 130)]⟩,
                       ⟨(some 132), none, .b2s (.t 131)⟩,
                       ⟨(some 133), none, .mv (.t 1)⟩,
                       ⟨(some 134), none, .mv (.t 11)⟩,
                       ⟨(some 135), none, .idxA 1 (.t 133) (.t 134)⟩,
                       ⟨(some 136), none, .load 1 false (.t 135)⟩,
                       ⟨(some 137), none, .b2s (.t 136)⟩,
                       ⟨(some 138), none, .sbin .neq (.t 132) (.t 137)⟩])
                     (.cond (.t 138)
                      (.seq
                       (.reg [⟨(some 6), none, .mv (.c (.bool false))⟩])
                       .ret)
                      .skip))))))
                (.reg [⟨(some 139), none, .bin .add (.t 57) (.c (.int .i64 1))⟩,
                  ⟨(some 57), none, .mv (.t 139)⟩])))))))
          (.seq
           (.reg [⟨(some 140), none, .mv (.t 8)⟩,
             ⟨(some 141), none, .bsl true 7141 1 1 [(.sl .nil 1 [])] [(0, 1, (.t 140))]⟩,
             ⟨(some 142), none, .call 12 [(.c (.int .u8 48)), (.t 141)]⟩,
             ⟨(some 143), none, .call 21 [(.t 142)]⟩,
             ⟨(some 144), none, .call 25 [(.t 143), (.c (.int .u8 48))]⟩,
             ⟨(some 12), none, .mv (.t 144)⟩])
           (.seq
            (.seq
             (.reg [⟨(some 145), none, .mv (.t 7)⟩,
               ⟨(some 146), none, .mv (.c (.int .i64 0))⟩])
             (.block 4
              (.loop
               (.seq
                (.reg [⟨(some 147), none, .bin .lss (.t 146) (.t 145)⟩])
                (.seq
                 (.cond (.t 147)
                  .skip
                  (.exit 4))
                 (.seq
                  (.block 5
                   (.seq
                    (.reg [⟨(some 148), none, .mv (.t 146)⟩,
                      ⟨(some 13), none, .mv (.t 148)⟩])
                    (.reg [⟨(some 149), none, .mv (.t 12)⟩,
                      ⟨(some 150), none, .mv (.t 0)⟩,
                      ⟨(some 151), none, .mv (.t 13)⟩,
                      ⟨(some 152), none, .idxA 1 (.t 150) (.t 151)⟩,
                      ⟨(some 153), none, .load 1 false (.t 152)⟩,
                      ⟨(some 154), none, .call 24 [(.t 149), (.t 153)]⟩])))
                  (.reg [⟨(some 155), none, .bin .add (.t 146) (.c (.int .i64 1))⟩,
                    ⟨(some 146), none, .mv (.t 155)⟩])))))))
            (.seq
             (.reg [⟨(some 156), none, .mv (.t 10)⟩,
               ⟨(some 157), none, .call 22 [(.t 156)]⟩,
               ⟨(some 158), none, .mv (.t 157)⟩,
               ⟨(some 159), (some (158, true)), .mv (.t 12)⟩,
               ⟨(some 160), (some (158, true)), .call 22 [(.t 159)]⟩,
               ⟨(some 161), none, .pick (.t 158) (.t 160) (.c (.bool false))⟩,
               ⟨(some 6), none, .mv (.t 161)⟩])
             .ret)))))))))))
theorem fn7 : FnC P0 G0 [] 7 = some (162, [.t 6], c7) := by kernel_rfl
/-- cartouche/cartouchelaw12.DerNone -/
noncomputable def c8 : C :=
  (.seq
   (.reg [⟨(some 2), none, .mv (.c (.bool false))⟩])
   (.seq
    (.seq
     (.reg [⟨(some 5), none, .call 11 []⟩,
       ⟨(some 6), none, .un .not (.t 5)⟩])
     (.cond (.t 6)
      (.seq
       (.reg [⟨(some 2), none, .mv (.c (.bool false))⟩])
       .ret)
      .skip))
    (.seq
     (.reg [⟨(some 3), none, .mv (.c (.v (.pointer none)))⟩])
     (.seq
      (.reg [⟨(some 7), none, .mv (.t 3)⟩,
        ⟨(some 8), none, .mv (.t 0)⟩,
        ⟨(some 9), none, .call 25 [(.t 7), (.t 8)]⟩,
        ⟨(some 4), none, .mv (.t 9)⟩])
      (.seq
       (.reg [⟨(some 10), none, .mv (.t 3)⟩,
         ⟨(some 11), none, .mv (.t 0)⟩,
         ⟨(some 12), none, .call 23 [(.t 10), (.t 11)]⟩,
         ⟨(some 13), none, .un .not (.t 12)⟩,
         ⟨(some 14), none, .mv (.t 13)⟩,
         ⟨(some 15), (some (14, true)), .mv (.t 3)⟩,
         ⟨(some 16), (some (14, true)), .mv (.t 0)⟩,
         ⟨(some 17), (some (14, true)), .call 24 [(.t 15), (.t 16)]⟩,
         ⟨(some 18), (some (14, true)), .len (.t 17)⟩,
         ⟨(some 19), (some (14, true)), .bin .eql (.t 18) (.c (.int .i64 0))⟩,
         ⟨(some 20), none, .pick (.t 14) (.t 19) (.c (.bool false))⟩,
         ⟨(some 21), none, .mv (.t 20)⟩,
         ⟨(some 22), (some (21, true)), .mv (.t 3)⟩,
         ⟨(some 23), (some (21, true)), .call 22 [(.t 22)]⟩,
         ⟨(some 24), (some (21, true)), .un .not (.t 23)⟩,
         ⟨(some 25), none, .pick (.t 21) (.t 24) (.c (.bool false))⟩,
         ⟨(some 26), none, .mv (.t 25)⟩,
         ⟨(some 27), (some (26, true)), .mv (.t 4)⟩,
         ⟨(some 28), (some (26, true)), .call 22 [(.t 27)]⟩,
         ⟨(some 29), (some (26, true)), .un .not (.t 28)⟩,
         ⟨(some 30), none, .pick (.t 26) (.t 29) (.c (.bool false))⟩,
         ⟨(some 31), none, .mv (.t 30)⟩,
         ⟨(some 32), (some (31, true)), .mv (.t 4)⟩,
         ⟨(some 33), (some (31, true)), .mv (.t 0)⟩,
         ⟨(some 34), (some (31, true)), .call 23 [(.t 32), (.t 33)]⟩,
         ⟨(some 35), (some (31, true)), .un .not (.t 34)⟩,
         ⟨(some 36), none, .pick (.t 31) (.t 35) (.c (.bool false))⟩,
         ⟨(some 37), none, .mv (.t 36)⟩,
         ⟨(some 38), (some (37, true)), .call 21 [(.c (.sl .nil 1 []))]⟩,
         ⟨(some 39), (some (37, true)), .call 22 [(.t 38)]⟩,
         ⟨(some 40), none, .pick (.t 37) (.t 39) (.c (.bool false))⟩,
         ⟨(some 2), none, .mv (.t 40)⟩])
       .ret)))))
theorem fn8 : FnC P0 G0 [] 8 = some (41, [.t 2], c8) := by kernel_rfl
/-- cartouche/cartouchelaw12.DerNested -/
noncomputable def c9 : C :=
  (.seq
   (.reg [⟨(some 4), none, .mv (.c (.bool false))⟩])
   (.seq
    (.seq
     (.reg [⟨(some 8), none, .call 11 []⟩,
       ⟨(some 9), none, .un .not (.t 8)⟩])
     (.cond (.t 9)
      (.seq
       (.reg [⟨(some 4), none, .mv (.c (.bool false))⟩])
       .ret)
      .skip))
    (.seq
     (.reg [⟨(some 10), none, .mv (.t 0)⟩,
       ⟨(some 11), none, .bin .rem (.t 10) (.c (.int .i64 60))⟩,
       ⟨(some 12), none, .bin .add (.t 11) (.c (.int .i64 60))⟩,
       ⟨(some 13), none, .bin .rem (.t 12) (.c (.int .i64 60))⟩,
       ⟨(some 14), none, .bin .add (.t 13) (.c (.int .i64 1))⟩,
       ⟨(some 0), none, .mv (.t 14)⟩])
     (.seq
      (.seq
       (.reg [⟨(some 15), none, .mv (.t 1)⟩,
         ⟨(some 16), none, .len (.t 15)⟩,
         ⟨(some 17), none, .bin .gtr (.t 16) (.c (.int .i64 200))⟩])
       (.cond (.t 17)
        (.seq
         (.reg [⟨(some 4), none, .mv (.c (.bool true))⟩])
         .ret)
        .skip))
      (.seq
       (.reg [⟨(some 18), none, .mv (.t 1)⟩,
         ⟨(some 19), none, .bsl true 9019 1 1 [(.sl .nil 1 [])] [(0, 1, (.t 18))]⟩,
         ⟨(some 20), none, .call 12 [(.c (.int .u8 4)), (.t 19)]⟩,
         ⟨(some 5), none, .mv (.t 20)⟩])
       (.seq
        (.seq
         (.reg [⟨(some 21), none, .mv (.t 0)⟩,
           ⟨(some 22), none, .mv (.c (.int .i64 0))⟩])
         (.block 0
          (.loop
           (.seq
            (.reg [⟨(some 23), none, .bin .lss (.t 22) (.t 21)⟩])
            (.seq
             (.cond (.t 23)
              .skip
              (.exit 0))
             (.seq
              (.block 1
               (.reg [⟨(some 24), none, .mv (.t 5)⟩,
                 ⟨(some 25), none, .bsl true 9025 1 1 [(.sl .nil 1 [])] [(0, 1, (.t 24))]⟩,
                 ⟨(some 26), none, .call 12 [(.c (.int .u8 48)), (.t 25)]⟩,
                 ⟨(some 5), none, .mv (.t 26)⟩]))
              (.reg [⟨(some 27), none, .bin .add (.t 22) (.c (.int .i64 1))⟩,
                ⟨(some 22), none, .mv (.t 27)⟩])))))))
        (.seq
         (.reg [⟨(some 28), none, .mv (.t 5)⟩,
           ⟨(some 29), none, .call 21 [(.t 28)]⟩,
           ⟨(some 6), none, .mv (.t 29)⟩])
         (.seq
          (.seq
           (.reg [⟨(some 30), none, .mv (.t 0)⟩,
             ⟨(some 31), none, .mv (.c (.int .i64 0))⟩])
           (.block 2
            (.loop
             (.seq
              (.reg [⟨(some 32), none, .bin .lss (.t 31) (.t 30)⟩])
              (.seq
               (.cond (.t 32)
                .skip
                (.exit 2))
               (.seq
                (.block 3
                 (.seq
                  (.reg [⟨(some 33), none, .mv (.t 6)⟩,
                    ⟨(some 34), none, .call 25 [(.t 33), (.c (.int .u8 48))]⟩,
                    ⟨(some 7), none, .mv (.t 34)⟩])
                  (.seq
                   (.seq
                    (.reg [⟨(some 35), none, .mv (.t 6)⟩,
                      ⟨(some 36), none, .call 22 [(.t 35)]⟩,
                      ⟨(some 37), none, .un .not (.t 36)⟩])
                    (.cond (.t 37)
                     (.seq
                      (.reg [⟨(some 4), none, .mv (.c (.bool false))⟩])
                      .ret)
                     .skip))
                   (.reg [⟨(some 38), none, .mv (.t 7)⟩,
                     ⟨(some 6), none, .mv (.t 38)⟩]))))
                (.reg [⟨(some 39), none, .bin .add (.t 31) (.c (.int .i64 1))⟩,
                  ⟨(some 31), none, .mv (.t 39)⟩])))))))
          (.seq
           (.reg [⟨(some 40), none, .mv (.t 6)⟩,
             ⟨(some 43), none, .mv (.t 1)⟩,
             ⟨(some 44), none, .b2s (.t 43)⟩,
             ⟨(some 41), none, .call 24 [(.t 40), (.c (.int .u8 4))]⟩,
             ⟨(some 42), none, .b2s (.t 41)⟩,
             ⟨(some 45), none, .sbin .eql (.t 42) (.t 44)⟩,
             ⟨(some 46), none, .mv (.t 45)⟩,
             ⟨(some 47), (some (46, true)), .mv (.t 6)⟩,
             ⟨(some 48), (some (46, true)), .call 22 [(.t 47)]⟩,
             ⟨(some 49), none, .pick (.t 46) (.t 48) (.c (.bool false))⟩,
             ⟨(some 4), none, .mv (.t 49)⟩])
           .ret)))))))))
theorem fn9 : FnC P0 G0 [] 9 = some (50, [.t 4], c9) := by kernel_rfl
/-- cartouche/cartouchelaw12.DerTimes -/
noncomputable def c10 : C :=
  (.seq
   (.reg [⟨(some 6), none, .mv (.c (.bool false))⟩])
   (.seq
    (.seq
     (.reg [⟨(some 14), none, .call 11 []⟩,
       ⟨(some 15), none, .un .not (.t 14)⟩])
     (.cond (.t 15)
      (.seq
       (.reg [⟨(some 6), none, .mv (.c (.bool false))⟩])
       .ret)
      .skip))
    (.seq
     (.seq
      (.reg [⟨(some 16), none, .mv (.t 2)⟩,
        ⟨(some 17), none, .len (.t 16)⟩,
        ⟨(some 18), none, .bin .gtr (.t 17) (.c (.int .i64 100))⟩])
      (.cond (.t 18)
       (.seq
        (.reg [⟨(some 6), none, .mv (.c (.bool true))⟩])
        .ret)
       .skip))
     (.seq
      (.reg [⟨(some 19), none, .mv (.t 0)⟩,
        ⟨(some 20), none, .call 26 [(.t 19)]⟩,
        ⟨(some 7), none, .mv (.t 20)⟩])
      (.seq
       (.reg [⟨(some 22), none, .mv (.t 1)⟩,
         ⟨(some 23), none, .mv (.t 2)⟩,
         ⟨(some 24), none, .call 27 [(.t 22), (.t 23)]⟩,
         ⟨(some 21), none, .mv (.t 24)⟩,
         ⟨(some 25), none, .ext (.t 21) 0⟩,
         ⟨(some 26), none, .ext (.t 21) 1⟩,
         ⟨(some 8), none, .mv (.t 25)⟩,
         ⟨(some 9), none, .mv (.t 26)⟩])
       (.seq
        (.reg [⟨(some 28), none, .mv (.t 1)⟩,
          ⟨(some 29), none, .mv (.t 2)⟩,
          ⟨(some 30), none, .call 28 [(.t 28), (.t 29)]⟩,
          ⟨(some 27), none, .mv (.t 30)⟩,
          ⟨(some 31), none, .ext (.t 27) 0⟩,
          ⟨(some 32), none, .ext (.t 27) 1⟩,
          ⟨(some 10), none, .mv (.t 31)⟩,
          ⟨(some 11), none, .mv (.t 32)⟩])
        (.seq
         (.seq
          (.reg [⟨(some 33), none, .mv (.t 7)⟩,
            ⟨(some 34), none, .b2s (.t 33)⟩,
            ⟨(some 35), none, .mv (.t 0)⟩,
            ⟨(some 36), none, .call 29 [(.t 35)]⟩,
            ⟨(some 37), none, .b2s (.t 36)⟩,
            ⟨(some 38), none, .sbin .neq (.t 34) (.t 37)⟩,
            ⟨(some 39), none, .mv (.t 38)⟩,
            ⟨(some 40), (some (39, false)), .mv (.t 9)⟩,
            ⟨(some 41), (some (39, false)), .mv (.t 11)⟩,
            ⟨(some 42), (some (39, false)), .eqb true (.t 40) (.t 41)⟩,
            ⟨(some 43), none, .pick (.t 39) (.c (.bool true)) (.t 42)⟩,
            ⟨(some 44), none, .mv (.t 43)⟩,
            ⟨(some 45), (some (44, false)), .mv (.t 8)⟩,
            ⟨(some 46), (some (44, false)), .mv (.t 10)⟩,
            ⟨(some 47), (some (44, false)), .bin .neq (.t 45) (.t 46)⟩,
            ⟨(some 48), none, .pick (.t 44) (.c (.bool true)) (.t 47)⟩])
          (.cond (.t 48)
           (.seq
            (.reg [⟨(some 6), none, .mv (.c (.bool false))⟩])
            .ret)
           .skip))
         (.seq
          (.seq
           (.reg [⟨(some 49), none, .mv (.t 7)⟩,
             ⟨(some 50), none, .len (.t 49)⟩,
             ⟨(some 51), none, .bin .eql (.t 50) (.c (.int .i64 0))⟩])
           (.cond (.t 51)
            (.seq
             (.reg [⟨(some 52), none, .mv (.t 0)⟩,
               ⟨(some 53), none, .bin .geq (.t 52) (.c (.int .u64 253402300800))⟩,
               ⟨(some 6), none, .mv (.t 53)⟩])
             .ret)
            .skip))
          (.seq
           (.reg [⟨(some 55), none, .mv (.t 7)⟩,
             ⟨(some 56), none, .idxA 1 (.t 55) (.c (.int .i64 0))⟩,
             ⟨(some 57), none, .load 1 false (.t 56)⟩,
             ⟨(some 58), none, .mv (.t 7)⟩,
             ⟨(some 59), none, .slice 1 (.t 58) (some (.c (.int .i64 2))) none none⟩,
             ⟨(some 60), none, .call 27 [(.t 57), (.t 59)]⟩,
             ⟨(some 54), none, .mv (.t 60)⟩,
             ⟨(some 61), none, .ext (.t 54) 0⟩,
             ⟨(some 62), none, .ext (.t 54) 1⟩,
             ⟨(some 12), none, .mv (.t 61)⟩,
             ⟨(some 13), none, .mv (.t 62)⟩])
           (.seq
            (.reg [⟨(some 63), none, .mv (.t 13)⟩,
              ⟨(some 64), none, .mv (.t 63)⟩,
              ⟨(some 65), (some (64, true)), .mv (.t 12)⟩,
              ⟨(some 66), (some (64, true)), .mv (.t 0)⟩,
              ⟨(some 67), (some (64, true)), .bin .eql (.t 65) (.t 66)⟩,
              ⟨(some 68), none, .pick (.t 64) (.t 67) (.c (.bool false))⟩,
              ⟨(some 6), none, .mv (.t 68)⟩])
            .ret))))))))))
theorem fn10 : FnC P0 G0 [] 10 = some (69, [.t 6], c10) := by kernel_rfl
/-- cartouche/cartouchelaw12.sound -/
noncomputable def c11 : C :=
  (.seq
   (.reg [⟨(some 0), none, .mv (.c (.bool false))⟩])
   (.seq
    (.reg [⟨(some 6), none, .call 18 [(.c (.int .u64 128))]⟩,
      ⟨(some 7), none, .call 14 [(.t 6)]⟩,
      ⟨(some 5), none, .mv (.t 7)⟩,
      ⟨(some 8), none, .ext (.t 5) 0⟩,
      ⟨(some 9), none, .ext (.t 5) 1⟩,
      ⟨(some 10), none, .ext (.t 5) 2⟩,
      ⟨(some 11), none, .ext (.t 5) 3⟩,
      ⟨(some 1), none, .mv (.t 8)⟩,
      ⟨(some 2), none, .mv (.t 9)⟩,
      ⟨(some 3), none, .mv (.t 10)⟩,
      ⟨(some 4), none, .mv (.t 11)⟩])
    (.seq
     (.reg [⟨(some 12), none, .mv (.t 1)⟩,
       ⟨(some 13), none, .bin .eql (.t 12) (.c (.int .u8 2))⟩,
       ⟨(some 14), none, .mv (.t 13)⟩,
       ⟨(some 15), (some (14, true)), .mv (.t 2)⟩,
       ⟨(some 16), (some (14, true)), .b2s (.t 15)⟩,
       ⟨(some 17), (some (14, true)), .sbin .eql (.t 16) (.c (.str [0, 128]))⟩,
       ⟨(some 18), none, .pick (.t 14) (.t 17) (.c (.bool false))⟩,
       ⟨(some 19), none, .mv (.t 18)⟩,
       ⟨(some 20), (some (19, true)), .mv (.t 3)⟩,
       ⟨(some 21), (some (19, true)), .len (.t 20)⟩,
       ⟨(some 22), (some (19, true)), .bin .eql (.t 21) (.c (.int .i64 0))⟩,
       ⟨(some 23), none, .pick (.t 19) (.t 22) (.c (.bool false))⟩,
       ⟨(some 24), none, .mv (.t 23)⟩,
       ⟨(some 25), (some (24, true)), .mv (.t 4)⟩,
       ⟨(some 26), (some (24, true)), .bin .eql (.t 25) (.c (.int .i64 0))⟩,
       ⟨(some 27), none, .pick (.t 24) (.t 26) (.c (.bool false))⟩,
       ⟨(some 28), none, .mv (.t 27)⟩,
       ⟨(some 29), (some (28, true)), .call 26 [(.c (.int .u64 0))]⟩,
       ⟨(some 30), (some (28, true)), .b2s (.t 29)⟩,
       ⟨(some 31), (some (28, true)), .sbin .eql (.t 30) (.c (.str [23, 13, 55, 48, 48, 49, 48, 49, 48, 48, 48, 48, 48, 48, 90]))⟩,
       ⟨(some 32), none, .pick (.t 28) (.t 31) (.c (.bool false))⟩,
       ⟨(some 0), none, .mv (.t 32)⟩])
     .ret)))
theorem fn11 : FnC P0 G0 [] 11 = some (33, [.t 0], c11) := by kernel_rfl
/-- cartouche/der.Put -/
noncomputable def c12 : C :=
  (.seq
   (.reg [⟨(some 4), none, .mv (.c (.sl .nil 1 []))⟩])
   (.seq
    (.reg [⟨(some 5), none, .mv (.c (.sl .nil 1 []))⟩])
    (.seq
     (.seq
      (.reg [⟨(some 9), none, .mv (.t 1)⟩,
        ⟨(some 10), none, .len (.t 9)⟩,
        ⟨(some 11), none, .mv (.c (.int .i64 0))⟩])
      (.block 0
       (.loop
        (.seq
         (.reg [⟨(some 12), none, .bin .lss (.t 11) (.t 10)⟩])
         (.seq
          (.cond (.t 12)
           .skip
           (.exit 0))
          (.seq
           (.block 1
            (.seq
             (.reg [⟨(some 13), none, .idxA 1 (.t 9) (.t 11)⟩,
               ⟨(some 14), none, .load 1 false (.t 13)⟩,
               ⟨(some 7), none, .mv (.t 14)⟩])
             (.reg [⟨(some 15), none, .mv (.t 5)⟩,
               ⟨(some 16), none, .mv (.t 7)⟩,
               ⟨(some 17), none, .app 1 1 (.t 15) (.t 16)⟩,
               ⟨(some 5), none, .mv (.t 17)⟩])))
           (.reg [⟨(some 18), none, .bin .add (.t 11) (.c (.int .i64 1))⟩,
             ⟨(some 11), none, .mv (.t 18)⟩])))))))
     (.seq
      (.seq
       (.reg [⟨(some 19), none, .mv (.t 5)⟩,
         ⟨(some 20), none, .len (.t 19)⟩,
         ⟨(some 8), none, .mv (.t 20)⟩])
       (.block 2
        (.seq
         (.reg [⟨(some 22), none, .mv (.t 8)⟩,
           ⟨(some 23), none, .bin .lss (.t 22) (.c (.int .i64 128))⟩,
           ⟨(some 21), none, .mv (.t 23)⟩])
         (.cond (.t 21)
          (.seq
           (.reg [⟨(some 24), none, .mv (.t 0)⟩,
             ⟨(some 25), none, .mv (.t 8)⟩,
             ⟨(some 26), none, .cvt .u8 (.t 25)⟩,
             ⟨(some 27), none, .bsl true 12027 2 1 [(.int .u8 0)] [(0, 1, (.t 24)), (1, 1, (.t 26))]⟩,
             ⟨(some 28), none, .mv (.t 5)⟩,
             ⟨(some 29), none, .app 1 1 (.t 27) (.t 28)⟩,
             ⟨(some 4), none, .mv (.t 29)⟩])
           .ret)
          (.seq
           (.reg [⟨(some 31), none, .mv (.t 8)⟩,
             ⟨(some 32), none, .bin .lss (.t 31) (.c (.int .i64 256))⟩,
             ⟨(some 30), none, .mv (.t 32)⟩])
           (.cond (.t 30)
            (.seq
             (.reg [⟨(some 33), none, .mv (.t 0)⟩,
               ⟨(some 34), none, .mv (.t 8)⟩,
               ⟨(some 35), none, .cvt .u8 (.t 34)⟩,
               ⟨(some 36), none, .bsl true 12036 3 1 [(.int .u8 0)] [(0, 1, (.t 33)), (1, 1, (.c (.int .u8 129))), (2, 1, (.t 35))]⟩,
               ⟨(some 37), none, .mv (.t 5)⟩,
               ⟨(some 38), none, .app 1 1 (.t 36) (.t 37)⟩,
               ⟨(some 4), none, .mv (.t 38)⟩])
             .ret)
            (.seq
             (.reg [⟨(some 40), none, .mv (.t 8)⟩,
               ⟨(some 41), none, .bin .lss (.t 40) (.c (.int .i64 65536))⟩,
               ⟨(some 39), none, .mv (.t 41)⟩])
             (.cond (.t 39)
              (.seq
               (.reg [⟨(some 42), none, .mv (.t 0)⟩,
                 ⟨(some 43), none, .mv (.t 8)⟩,
                 ⟨(some 44), none, .shf .shr (.t 43) (.c (.int .u64 8))⟩,
                 ⟨(some 45), none, .cvt .u8 (.t 44)⟩,
                 ⟨(some 46), none, .mv (.t 8)⟩,
                 ⟨(some 47), none, .cvt .u8 (.t 46)⟩,
                 ⟨(some 48), none, .bsl true 12048 4 1 [(.int .u8 0)] [(0, 1, (.t 42)), (1, 1, (.c (.int .u8 130))), (2, 1, (.t 45)), (3, 1, (.t 47))]⟩,
                 ⟨(some 49), none, .mv (.t 5)⟩,
                 ⟨(some 50), none, .app 1 1 (.t 48) (.t 49)⟩,
                 ⟨(some 4), none, .mv (.t 50)⟩])
               .ret)
              .skip))))))))
      (.seq
       (.reg [⟨(some 4), none, .mv (.c (.sl .nil 1 []))⟩])
       .ret)))))
theorem fn12 : FnC P0 G0 [] 12 = some (51, [.t 4], c12) := by kernel_rfl
/-- cartouche/cartoucheref12.Put -/
noncomputable def c13 : C :=
  (.seq
   (.reg [⟨(some 4), none, .mv (.c (.sl .nil 1 []))⟩])
   (.seq
    (.reg [⟨(some 7), none, .mv (.t 1)⟩,
      ⟨(some 8), none, .len (.t 7)⟩,
      ⟨(some 5), none, .mv (.t 8)⟩])
    (.seq
     (.reg [⟨(some 9), none, .mv (.t 0)⟩,
       ⟨(some 10), none, .bsl true 13010 1 1 [(.int .u8 0)] [(0, 1, (.t 9))]⟩,
       ⟨(some 6), none, .mv (.t 10)⟩])
     (.seq
      (.block 0
       (.seq
        (.reg [⟨(some 17), none, .mv (.t 5)⟩,
          ⟨(some 18), none, .bin .gtr (.t 17) (.c (.int .i64 65535))⟩,
          ⟨(some 16), none, .mv (.t 18)⟩])
        (.cond (.t 16)
         (.seq
          (.reg [⟨(some 4), none, .mv (.c (.sl .nil 1 []))⟩])
          .ret)
         (.seq
          (.reg [⟨(some 20), none, .mv (.t 5)⟩,
            ⟨(some 21), none, .bin .gtr (.t 20) (.c (.int .i64 255))⟩,
            ⟨(some 19), none, .mv (.t 21)⟩])
          (.cond (.t 19)
           (.reg [⟨(some 22), none, .mv (.t 6)⟩,
             ⟨(some 23), none, .mv (.t 5)⟩,
             ⟨(some 24), none, .bin .quo (.t 23) (.c (.int .i64 256))⟩,
             ⟨(some 25), none, .cvt .u8 (.t 24)⟩,
             ⟨(some 26), none, .mv (.t 5)⟩,
             ⟨(some 27), none, .bin .rem (.t 26) (.c (.int .i64 256))⟩,
             ⟨(some 28), none, .cvt .u8 (.t 27)⟩,
             ⟨(some 29), none, .bsl true 13029 3 1 [(.int .u8 0)] [(0, 1, (.c (.int .u8 130))), (1, 1, (.t 25)), (2, 1, (.t 28))]⟩,
             ⟨(some 30), none, .app 1 1 (.t 22) (.t 29)⟩,
             ⟨(some 6), none, .mv (.t 30)⟩])
           (.seq
            (.reg [⟨(some 32), none, .mv (.t 5)⟩,
              ⟨(some 33), none, .bin .gtr (.t 32) (.c (.int .i64 127))⟩,
              ⟨(some 31), none, .mv (.t 33)⟩])
            (.cond (.t 31)
             (.reg [⟨(some 34), none, .mv (.t 6)⟩,
               ⟨(some 35), none, .mv (.t 5)⟩,
               ⟨(some 36), none, .cvt .u8 (.t 35)⟩,
               ⟨(some 37), none, .bsl true 13037 2 1 [(.int .u8 0)] [(0, 1, (.c (.int .u8 129))), (1, 1, (.t 36))]⟩,
               ⟨(some 38), none, .app 1 1 (.t 34) (.t 37)⟩,
               ⟨(some 6), none, .mv (.t 38)⟩])
             (.reg [⟨(some 11), none, .mv (.t 6)⟩,
               ⟨(some 12), none, .mv (.t 5)⟩,
               ⟨(some 13), none, .cvt .u8 (.t 12)⟩,
               ⟨(some 14), none, .bsl true 13014 1 1 [(.int .u8 0)] [(0, 1, (.t 13))]⟩,
               ⟨(some 15), none, .app 1 1 (.t 11) (.t 14)⟩,
               ⟨(some 6), none, .mv (.t 15)⟩]))))))))
      (.seq
       (.reg [⟨(some 39), none, .mv (.t 6)⟩,
         ⟨(some 40), none, .mv (.t 1)⟩,
         ⟨(some 41), none, .app 1 1 (.t 39) (.t 40)⟩,
         ⟨(some 4), none, .mv (.t 41)⟩])
       .ret)))))
theorem fn13 : FnC P0 G0 [] 13 = some (42, [.t 4], c13) := by kernel_rfl
/-- cartouche/der.Get -/
noncomputable def c14 : C :=
  (.seq
   (.reg [⟨(some 2), none, .mv (.c (.int .u8 0))⟩,
     ⟨(some 3), none, .mv (.c (.sl .nil 1 []))⟩,
     ⟨(some 4), none, .mv (.c (.sl .nil 1 []))⟩,
     ⟨(some 5), none, .mv (.c (.int .i64 0))⟩])
   (.seq
    (.seq
     (.reg [⟨(some 8), none, .mv (.t 0)⟩,
       ⟨(some 9), none, .len (.t 8)⟩,
       ⟨(some 10), none, .bin .lss (.t 9) (.c (.int .i64 2))⟩,
       ⟨(some 11), none, .mv (.t 10)⟩,
       ⟨(some 12), (some (11, false)), .mv (.t 0)⟩,
       ⟨(some 13), (some (11, false)), .idxA 1 (.t 12) (.c (.int .i64 0))⟩,
       ⟨(some 14), (some (11, false)), .load 1 false (.t 13)⟩,
       ⟨(some 15), (some (11, false)), .bin .and (.t 14) (.c (.int .u8 31))⟩,
       ⟨(some 16), (some (11, false)), .bin .eql (.t 15) (.c (.int .u8 31))⟩,
       ⟨(some 17), none, .pick (.t 11) (.c (.bool true)) (.t 16)⟩])
     (.cond (.t 17)
      (.seq
       (.reg [⟨(some 2), none, .mv (.c (.int .u8 0))⟩,
         ⟨(some 3), none, .mv (.c (.sl .nil 1 []))⟩,
         ⟨(some 4), none, .mv (.c (.sl .nil 1 []))⟩,
         ⟨(some 5), none, .mv (.c (.int .i64 3))⟩])
       .ret)
      .skip))
    (.seq
     (.reg [⟨(some 18), none, .mv (.t 0)⟩,
       ⟨(some 19), none, .idxA 1 (.t 18) (.c (.int .i64 1))⟩,
       ⟨(some 20), none, .load 1 false (.t 19)⟩,
       ⟨(some 21), none, .cvt .i64 (.t 20)⟩,
       ⟨(some 6), none, .mv (.t 21)⟩,
       ⟨(some 7), none, .mv (.c (.int .i64 2))⟩])
     (.seq
      (.block 0
       (.seq
        (.reg [⟨(some 23), none, .mv (.t 6)⟩,
          ⟨(some 24), none, .bin .eql (.t 23) (.c (.int .i64 129))⟩,
          ⟨(some 25), none, .mv (.t 24)⟩,
          ⟨(some 26), (some (25, true)), .mv (.t 0)⟩,
          ⟨(some 27), (some (25, true)), .len (.t 26)⟩,
          ⟨(some 28), (some (25, true)), .bin .gtr (.t 27) (.c (.int .i64 2))⟩,
          ⟨(some 29), none, .pick (.t 25) (.t 28) (.c (.bool false))⟩,
          ⟨(some 30), none, .mv (.t 29)⟩,
          ⟨(some 31), (some (30, true)), .mv (.t 0)⟩,
          ⟨(some 32), (some (30, true)), .idxA 1 (.t 31) (.c (.int .i64 2))⟩,
          ⟨(some 33), (some (30, true)), .load 1 false (.t 32)⟩,
          ⟨(some 34), (some (30, true)), .bin .geq (.t 33) (.c (.int .u8 128))⟩,
          ⟨(some 35), none, .pick (.t 30) (.t 34) (.c (.bool false))⟩,
          ⟨(some 22), none, .mv (.t 35)⟩])
        (.cond (.t 22)
         (.reg [⟨(some 36), none, .mv (.t 0)⟩,
           ⟨(some 37), none, .idxA 1 (.t 36) (.c (.int .i64 2))⟩,
           ⟨(some 38), none, .load 1 false (.t 37)⟩,
           ⟨(some 39), none, .cvt .i64 (.t 38)⟩,
           ⟨(some 6), none, .mv (.t 39)⟩,
           ⟨(some 7), none, .mv (.c (.int .i64 3))⟩])
         (.seq
          (.reg [⟨(some 41), none, .mv (.t 6)⟩,
            ⟨(some 42), none, .bin .eql (.t 41) (.c (.int .i64 130))⟩,
            ⟨(some 43), none, .mv (.t 42)⟩,
            ⟨(some 44), (some (43, true)), .mv (.t 0)⟩,
            ⟨(some 45), (some (43, true)), .len (.t 44)⟩,
            ⟨(some 46), (some (43, true)), .bin .gtr (.t 45) (.c (.int .i64 3))⟩,
            ⟨(some 47), none, .pick (.t 43) (.t 46) (.c (.bool false))⟩,
            ⟨(some 48), none, .mv (.t 47)⟩,
            ⟨(some 49), (some (48, true)), .mv (.t 0)⟩,
            ⟨(some 50), (some (48, true)), .idxA 1 (.t 49) (.c (.int .i64 2))⟩,
            ⟨(some 51), (some (48, true)), .load 1 false (.t 50)⟩,
            ⟨(some 52), (some (48, true)), .bin .gtr (.t 51) (.c (.int .u8 0))⟩,
            ⟨(some 53), none, .pick (.t 48) (.t 52) (.c (.bool false))⟩,
            ⟨(some 40), none, .mv (.t 53)⟩])
          (.cond (.t 40)
           (.reg [⟨(some 54), none, .mv (.t 0)⟩,
             ⟨(some 55), none, .idxA 1 (.t 54) (.c (.int .i64 2))⟩,
             ⟨(some 56), none, .load 1 false (.t 55)⟩,
             ⟨(some 57), none, .cvt .i64 (.t 56)⟩,
             ⟨(some 58), none, .shf .shl (.t 57) (.c (.int .u64 8))⟩,
             ⟨(some 59), none, .mv (.t 0)⟩,
             ⟨(some 60), none, .idxA 1 (.t 59) (.c (.int .i64 3))⟩,
             ⟨(some 61), none, .load 1 false (.t 60)⟩,
             ⟨(some 62), none, .cvt .i64 (.t 61)⟩,
             ⟨(some 63), none, .bin .or (.t 58) (.t 62)⟩,
             ⟨(some 6), none, .mv (.t 63)⟩,
             ⟨(some 7), none, .mv (.c (.int .i64 4))⟩])
           (.seq
            (.reg [⟨(some 65), none, .mv (.t 6)⟩,
              ⟨(some 66), none, .bin .geq (.t 65) (.c (.int .i64 128))⟩,
              ⟨(some 64), none, .mv (.t 66)⟩])
            (.cond (.t 64)
             (.seq
              (.reg [⟨(some 2), none, .mv (.c (.int .u8 0))⟩,
                ⟨(some 3), none, .mv (.c (.sl .nil 1 []))⟩,
                ⟨(some 4), none, .mv (.c (.sl .nil 1 []))⟩,
                ⟨(some 5), none, .mv (.c (.int .i64 3))⟩])
              .ret)
             .skip)))))))
      (.seq
       (.seq
        (.reg [⟨(some 67), none, .mv (.t 0)⟩,
          ⟨(some 68), none, .len (.t 67)⟩,
          ⟨(some 69), none, .mv (.t 7)⟩,
          ⟨(some 70), none, .bin .sub (.t 68) (.t 69)⟩,
          ⟨(some 71), none, .mv (.t 6)⟩,
          ⟨(some 72), none, .bin .lss (.t 70) (.t 71)⟩])
        (.cond (.t 72)
         (.seq
          (.reg [⟨(some 2), none, .mv (.c (.int .u8 0))⟩,
            ⟨(some 3), none, .mv (.c (.sl .nil 1 []))⟩,
            ⟨(some 4), none, .mv (.c (.sl .nil 1 []))⟩,
            ⟨(some 5), none, .mv (.c (.int .i64 3))⟩])
          .ret)
         .skip))
       (.seq
        (.reg [⟨(some 73), none, .mv (.t 0)⟩,
          ⟨(some 74), none, .idxA 1 (.t 73) (.c (.int .i64 0))⟩,
          ⟨(some 75), none, .load 1 false (.t 74)⟩,
          ⟨(some 76), none, .mv (.t 0)⟩,
          ⟨(some 77), none, .mv (.t 7)⟩,
          ⟨(some 78), none, .mv (.t 7)⟩,
          ⟨(some 79), none, .mv (.t 6)⟩,
          ⟨(some 80), none, .bin .add (.t 78) (.t 79)⟩,
          ⟨(some 81), none, .slice 1 (.t 76) (some (.t 77)) (some (.t 80)) none⟩,
          ⟨(some 82), none, .mv (.t 0)⟩,
          ⟨(some 83), none, .mv (.t 7)⟩,
          ⟨(some 84), none, .mv (.t 6)⟩,
          ⟨(some 85), none, .bin .add (.t 83) (.t 84)⟩,
          ⟨(some 86), none, .slice 1 (.t 82) (some (.t 85)) none none⟩,
          ⟨(some 2), none, .mv (.t 75)⟩,
          ⟨(some 3), none, .mv (.t 81)⟩,
          ⟨(some 4), none, .mv (.t 86)⟩,
          ⟨(some 5), none, .mv (.c (.int .i64 0))⟩])
        .ret))))))
theorem fn14 : FnC P0 G0 [] 14 = some (87, [.t 2, .t 3, .t 4, .t 5], c14) := by kernel_rfl
/-- cartouche/cartoucheref12.Get -/
noncomputable def c15 : C :=
  (.seq
   (.reg [⟨(some 2), none, .mv (.c (.int .i64 0))⟩,
     ⟨(some 3), none, .mv (.c (.int .i64 0))⟩,
     ⟨(some 4), none, .mv (.c (.bool false))⟩])
   (.seq
    (.seq
     (.reg [⟨(some 7), none, .mv (.t 0)⟩,
       ⟨(some 8), none, .len (.t 7)⟩,
       ⟨(some 9), none, .bin .lss (.t 8) (.c (.int .i64 2))⟩,
       ⟨(some 10), none, .mv (.t 9)⟩,
       ⟨(some 11), (some (10, false)), .mv (.t 0)⟩,
       ⟨(some 12), (some (10, false)), .idxA 1 (.t 11) (.c (.int .i64 0))⟩,
       ⟨(some 13), (some (10, false)), .load 1 false (.t 12)⟩,
       ⟨(some 14), (some (10, false)), .bin .rem (.t 13) (.c (.int .u8 32))⟩,
       ⟨(some 15), (some (10, false)), .bin .eql (.t 14) (.c (.int .u8 31))⟩,
       ⟨(some 16), none, .pick (.t 10) (.c (.bool true)) (.t 15)⟩])
     (.cond (.t 16)
      (.seq
       (.reg [⟨(some 2), none, .mv (.c (.int .i64 0))⟩,
         ⟨(some 3), none, .mv (.c (.int .i64 0))⟩,
         ⟨(some 4), none, .mv (.c (.bool false))⟩])
       .ret)
      .skip))
    (.seq
     (.reg [⟨(some 17), none, .mv (.t 0)⟩,
       ⟨(some 18), none, .idxA 1 (.t 17) (.c (.int .i64 1))⟩,
       ⟨(some 19), none, .load 1 false (.t 18)⟩,
       ⟨(some 20), none, .cvt .i64 (.t 19)⟩,
       ⟨(some 5), none, .mv (.c (.int .i64 2))⟩,
       ⟨(some 6), none, .mv (.t 20)⟩])
     (.seq
      (.seq
       (.reg [⟨(some 21), none, .mv (.t 0)⟩,
         ⟨(some 22), none, .idxA 1 (.t 21) (.c (.int .i64 1))⟩,
         ⟨(some 23), none, .load 1 false (.t 22)⟩])
       (.block 0
        (.seq
         (.reg [⟨(some 27), none, .bin .eql (.t 23) (.c (.int .u8 129))⟩,
           ⟨(some 26), none, .mv (.t 27)⟩])
         (.cond (.t 26)
          (.seq
           (.seq
            (.reg [⟨(some 28), none, .mv (.t 0)⟩,
              ⟨(some 29), none, .len (.t 28)⟩,
              ⟨(some 30), none, .bin .lss (.t 29) (.c (.int .i64 3))⟩,
              ⟨(some 31), none, .mv (.t 30)⟩,
              ⟨(some 32), (some (31, false)), .mv (.t 0)⟩,
              ⟨(some 33), (some (31, false)), .idxA 1 (.t 32) (.c (.int .i64 2))⟩,
              ⟨(some 34), (some (31, false)), .load 1 false (.t 33)⟩,
              ⟨(some 35), (some (31, false)), .bin .lss (.t 34) (.c (.int .u8 128))⟩,
              ⟨(some 36), none, .pick (.t 31) (.c (.bool true)) (.t 35)⟩])
            (.cond (.t 36)
             (.seq
              (.reg [⟨(some 2), none, .mv (.c (.int .i64 0))⟩,
                ⟨(some 3), none, .mv (.c (.int .i64 0))⟩,
                ⟨(some 4), none, .mv (.c (.bool false))⟩])
              .ret)
             .skip))
           (.seq
            (.reg [⟨(some 5), none, .mv (.c (.int .i64 3))⟩])
            (.reg [⟨(some 37), none, .mv (.t 0)⟩,
              ⟨(some 38), none, .idxA 1 (.t 37) (.c (.int .i64 2))⟩,
              ⟨(some 39), none, .load 1 false (.t 38)⟩,
              ⟨(some 40), none, .cvt .i64 (.t 39)⟩,
              ⟨(some 6), none, .mv (.t 40)⟩])))
          (.seq
           (.reg [⟨(some 42), none, .bin .eql (.t 23) (.c (.int .u8 130))⟩,
             ⟨(some 41), none, .mv (.t 42)⟩])
           (.cond (.t 41)
            (.seq
             (.seq
              (.reg [⟨(some 43), none, .mv (.t 0)⟩,
                ⟨(some 44), none, .len (.t 43)⟩,
                ⟨(some 45), none, .bin .lss (.t 44) (.c (.int .i64 4))⟩,
                ⟨(some 46), none, .mv (.t 45)⟩,
                ⟨(some 47), (some (46, false)), .mv (.t 0)⟩,
                ⟨(some 48), (some (46, false)), .idxA 1 (.t 47) (.c (.int .i64 2))⟩,
                ⟨(some 49), (some (46, false)), .load 1 false (.t 48)⟩,
                ⟨(some 50), (some (46, false)), .bin .eql (.t 49) (.c (.int .u8 0))⟩,
                ⟨(some 51), none, .pick (.t 46) (.c (.bool true)) (.t 50)⟩])
              (.cond (.t 51)
               (.seq
                (.reg [⟨(some 2), none, .mv (.c (.int .i64 0))⟩,
                  ⟨(some 3), none, .mv (.c (.int .i64 0))⟩,
                  ⟨(some 4), none, .mv (.c (.bool false))⟩])
                .ret)
               .skip))
             (.seq
              (.reg [⟨(some 5), none, .mv (.c (.int .i64 4))⟩])
              (.reg [⟨(some 52), none, .mv (.t 0)⟩,
                ⟨(some 53), none, .idxA 1 (.t 52) (.c (.int .i64 2))⟩,
                ⟨(some 54), none, .load 1 false (.t 53)⟩,
                ⟨(some 55), none, .cvt .i64 (.t 54)⟩,
                ⟨(some 56), none, .bin .mul (.t 55) (.c (.int .i64 256))⟩,
                ⟨(some 57), none, .mv (.t 0)⟩,
                ⟨(some 58), none, .idxA 1 (.t 57) (.c (.int .i64 3))⟩,
                ⟨(some 59), none, .load 1 false (.t 58)⟩,
                ⟨(some 60), none, .cvt .i64 (.t 59)⟩,
                ⟨(some 61), none, .bin .add (.t 56) (.t 60)⟩,
                ⟨(some 6), none, .mv (.t 61)⟩])))
            (.seq
             (.reg [⟨(some 24), none, .mv (.t 6)⟩,
               ⟨(some 25), none, .bin .gtr (.t 24) (.c (.int .i64 127))⟩])
             (.cond (.t 25)
              (.seq
               (.reg [⟨(some 2), none, .mv (.c (.int .i64 0))⟩,
                 ⟨(some 3), none, .mv (.c (.int .i64 0))⟩,
                 ⟨(some 4), none, .mv (.c (.bool false))⟩])
               .ret)
              .skip))))))))
      (.seq
       (.reg [⟨(some 62), none, .mv (.t 5)⟩,
         ⟨(some 63), none, .mv (.t 6)⟩,
         ⟨(some 64), none, .mv (.t 5)⟩,
         ⟨(some 65), none, .mv (.t 6)⟩,
         ⟨(some 66), none, .bin .add (.t 64) (.t 65)⟩,
         ⟨(some 67), none, .mv (.t 0)⟩,
         ⟨(some 68), none, .len (.t 67)⟩,
         ⟨(some 69), none, .bin .leq (.t 66) (.t 68)⟩,
         ⟨(some 2), none, .mv (.t 62)⟩,
         ⟨(some 3), none, .mv (.t 63)⟩,
         ⟨(some 4), none, .mv (.t 69)⟩])
       .ret)))))
theorem fn15 : FnC P0 G0 [] 15 = some (70, [.t 2, .t 3, .t 4], c15) := by kernel_rfl
/-- cartouche/der.Whole -/
noncomputable def c16 : C :=
  (.seq
   (.reg [⟨(some 2), none, .mv (.c (.sl .nil 1 []))⟩,
     ⟨(some 3), none, .mv (.c (.bool false))⟩])
   (.seq
    (.seq
     (.reg [⟨(some 4), none, .mv (.t 0)⟩,
       ⟨(some 5), none, .len (.t 4)⟩,
       ⟨(some 6), none, .bin .eql (.t 5) (.c (.int .i64 0))⟩,
       ⟨(some 7), none, .mv (.t 6)⟩,
       ⟨(some 8), (some (7, false)), .mv (.t 0)⟩,
       ⟨(some 9), (some (7, false)), .idxA 1 (.t 8) (.c (.int .i64 0))⟩,
       ⟨(some 10), (some (7, false)), .load 1 false (.t 9)⟩,
       ⟨(some 11), (some (7, false)), .bin .geq (.t 10) (.c (.int .u8 128))⟩,
       ⟨(some 12), none, .pick (.t 7) (.c (.bool true)) (.t 11)⟩,
       ⟨(some 13), none, .mv (.t 12)⟩,
       ⟨(some 14), (some (13, false)), .mv (.t 0)⟩,
       ⟨(some 15), (some (13, false)), .len (.t 14)⟩,
       ⟨(some 16), (some (13, false)), .bin .gtr (.t 15) (.c (.int .i64 1))⟩,
       ⟨(some 17), (some (13, false)), .mv (.t 16)⟩,
       ⟨(some 18), (some (17, true)), .mv (.t 0)⟩,
       ⟨(some 19), (some (17, true)), .idxA 1 (.t 18) (.c (.int .i64 0))⟩,
       ⟨(some 20), (some (17, true)), .load 1 false (.t 19)⟩,
       ⟨(some 21), (some (17, true)), .bin .eql (.t 20) (.c (.int .u8 0))⟩,
       ⟨(some 22), (some (13, false)), .pick (.t 17) (.t 21) (.c (.bool false))⟩,
       ⟨(some 23), (some (13, false)), .mv (.t 22)⟩,
       ⟨(some 24), (some (23, true)), .mv (.t 0)⟩,
       ⟨(some 25), (some (23, true)), .idxA 1 (.t 24) (.c (.int .i64 1))⟩,
       ⟨(some 26), (some (23, true)), .load 1 false (.t 25)⟩,
       ⟨(some 27), (some (23, true)), .bin .lss (.t 26) (.c (.int .u8 128))⟩,
       ⟨(some 28), (some (13, false)), .pick (.t 23) (.t 27) (.c (.bool false))⟩,
       ⟨(some 29), none, .pick (.t 13) (.c (.bool true)) (.t 28)⟩])
     (.cond (.t 29)
      (.seq
       (.reg [⟨(some 2), none, .mv (.c (.sl .nil 1 []))⟩,
         ⟨(some 3), none, .mv (.c (.bool false))⟩])
       .ret)
      .skip))
    (.seq
     (.seq
      (.reg [⟨(some 30), none, .mv (.t 0)⟩,
        ⟨(some 31), none, .idxA 1 (.t 30) (.c (.int .i64 0))⟩,
        ⟨(some 32), none, .load 1 false (.t 31)⟩,
        ⟨(some 33), none, .bin .eql (.t 32) (.c (.int .u8 0))⟩])
      (.cond (.t 33)
       (.seq
        (.reg [⟨(some 34), none, .mv (.t 0)⟩,
          ⟨(some 35), none, .slice 1 (.t 34) (some (.c (.int .i64 1))) none none⟩,
          ⟨(some 2), none, .mv (.t 35)⟩,
          ⟨(some 3), none, .mv (.c (.bool true))⟩])
        .ret)
       .skip))
     (.seq
      (.reg [⟨(some 36), none, .mv (.t 0)⟩,
        ⟨(some 2), none, .mv (.t 36)⟩,
        ⟨(some 3), none, .mv (.c (.bool true))⟩])
      .ret))))
theorem fn16 : FnC P0 G0 [] 16 = some (37, [.t 2, .t 3], c16) := by kernel_rfl
/-- cartouche/cartoucheref12.Whole -/
noncomputable def c17 : C :=
  (.seq
   (.reg [⟨(some 2), none, .mv (.c (.sl .nil 1 []))⟩,
     ⟨(some 3), none, .mv (.c (.bool false))⟩])
   (.seq
    (.reg [⟨(some 4), none, .mv (.c (.int .i64 0))⟩])
    (.seq
     (.block 0
      (.loop
       (.seq
        (.seq
         (.reg [⟨(some 5), none, .mv (.t 4)⟩,
           ⟨(some 6), none, .mv (.t 0)⟩,
           ⟨(some 7), none, .len (.t 6)⟩,
           ⟨(some 8), none, .bin .lss (.t 5) (.t 7)⟩,
           ⟨(some 9), none, .mv (.t 8)⟩,
           ⟨(some 10), (some (9, true)), .mv (.t 0)⟩,
           ⟨(some 11), (some (9, true)), .mv (.t 4)⟩,
           ⟨(some 12), (some (9, true)), .idxA 1 (.t 10) (.t 11)⟩,
           ⟨(some 13), (some (9, true)), .load 1 false (.t 12)⟩,
           ⟨(some 14), (some (9, true)), .bin .eql (.t 13) (.c (.int .u8 0))⟩,
           ⟨(some 15), none, .pick (.t 9) (.t 14) (.c (.bool false))⟩])
         (.cond (.t 15)
          .skip
          (.exit 0)))
        (.block 1
         (.reg [⟨(some 16), none, .mv (.t 4)⟩,
           ⟨(some 17), none, .bin .add (.t 16) (.c (.int .i64 1))⟩,
           ⟨(some 4), none, .mv (.t 17)⟩])))))
     (.seq
      (.seq
       (.reg [⟨(some 18), none, .mv (.t 0)⟩,
         ⟨(some 19), none, .len (.t 18)⟩,
         ⟨(some 20), none, .bin .eql (.t 19) (.c (.int .i64 0))⟩,
         ⟨(some 21), none, .mv (.t 20)⟩,
         ⟨(some 22), (some (21, false)), .mv (.t 0)⟩,
         ⟨(some 25), (some (21, false)), .mv (.t 0)⟩,
         ⟨(some 23), (some (21, false)), .call 19 [(.t 22)]⟩,
         ⟨(some 24), (some (21, false)), .b2s (.t 23)⟩,
         ⟨(some 26), (some (21, false)), .call 13 [(.c (.int .u8 2)), (.t 25)]⟩,
         ⟨(some 27), (some (21, false)), .b2s (.t 26)⟩,
         ⟨(some 28), (some (21, false)), .sbin .neq (.t 24) (.t 27)⟩,
         ⟨(some 29), none, .pick (.t 21) (.c (.bool true)) (.t 28)⟩,
         ⟨(some 30), none, .mv (.t 29)⟩,
         ⟨(some 31), (some (30, false)), .mv (.t 0)⟩,
         ⟨(some 32), (some (30, false)), .idxA 1 (.t 31) (.c (.int .i64 0))⟩,
         ⟨(some 33), (some (30, false)), .load 1 false (.t 32)⟩,
         ⟨(some 34), (some (30, false)), .bin .geq (.t 33) (.c (.int .u8 128))⟩,
         ⟨(some 35), none, .pick (.t 30) (.c (.bool true)) (.t 34)⟩])
       (.cond (.t 35)
        (.seq
         (.reg [⟨(some 2), none, .mv (.c (.sl .nil 1 []))⟩,
           ⟨(some 3), none, .mv (.c (.bool false))⟩])
         .ret)
        .skip))
      (.seq
       (.reg [⟨(some 36), none, .mv (.t 0)⟩,
         ⟨(some 37), none, .mv (.t 4)⟩,
         ⟨(some 38), none, .slice 1 (.t 36) (some (.t 37)) none none⟩,
         ⟨(some 2), none, .mv (.t 38)⟩,
         ⟨(some 3), none, .mv (.c (.bool true))⟩])
       .ret)))))
theorem fn17 : FnC P0 G0 [] 17 = some (39, [.t 2, .t 3], c17) := by kernel_rfl
/-- cartouche/der.Number -/
noncomputable def c18 : C :=
  (.seq
   (.reg [⟨(some 2), none, .mv (.c (.sl .nil 1 []))⟩])
   (.seq
    (.reg [⟨(some 4), none, .mv (.t 0)⟩,
      ⟨(some 5), none, .cvt .u8 (.t 4)⟩,
      ⟨(some 6), none, .bsl true 18006 1 1 [(.int .u8 0)] [(0, 1, (.t 5))]⟩,
      ⟨(some 3), none, .mv (.t 6)⟩])
    (.seq
     (.seq
      (.reg [⟨(some 7), none, .mv (.t 0)⟩,
        ⟨(some 8), none, .shf .shr (.t 7) (.c (.int .u64 8))⟩,
        ⟨(some 0), none, .mv (.t 8)⟩])
      (.block 0
       (.loop
        (.seq
         (.seq
          (.reg [⟨(some 9), none, .mv (.t 0)⟩,
            ⟨(some 10), none, .bin .gtr (.t 9) (.c (.int .u64 0))⟩])
          (.cond (.t 10)
           .skip
           (.exit 0)))
         (.seq
          (.block 1
           (.reg [⟨(some 13), none, .mv (.t 0)⟩,
             ⟨(some 14), none, .cvt .u8 (.t 13)⟩,
             ⟨(some 15), none, .bsl true 18015 1 1 [(.int .u8 0)] [(0, 1, (.t 14))]⟩,
             ⟨(some 16), none, .mv (.t 3)⟩,
             ⟨(some 17), none, .app 1 1 (.t 15) (.t 16)⟩,
             ⟨(some 3), none, .mv (.t 17)⟩]))
          (.reg [⟨(some 11), none, .mv (.t 0)⟩,
            ⟨(some 12), none, .shf .shr (.t 11) (.c (.int .u64 8))⟩,
            ⟨(some 0), none, .mv (.t 12)⟩]))))))
     (.seq
      (.reg [⟨(some 18), none, .mv (.t 3)⟩,
        ⟨(some 19), none, .call 20 [(.t 18)]⟩,
        ⟨(some 2), none, .mv (.t 19)⟩])
      .ret))))
theorem fn18 : FnC P0 G0 [] 18 = some (20, [.t 2], c18) := by kernel_rfl
/-- cartouche/cartoucheref12.Natural -/
noncomputable def c19 : C :=
  (.seq
   (.reg [⟨(some 2), none, .mv (.c (.sl .nil 1 []))⟩])
   (.seq
    (.reg [⟨(some 3), none, .mv (.c (.int .i64 0))⟩])
    (.seq
     (.block 0
      (.loop
       (.seq
        (.seq
         (.reg [⟨(some 5), none, .mv (.t 3)⟩,
           ⟨(some 6), none, .mv (.t 0)⟩,
           ⟨(some 7), none, .len (.t 6)⟩,
           ⟨(some 8), none, .bin .lss (.t 5) (.t 7)⟩,
           ⟨(some 9), none, .mv (.t 8)⟩,
           ⟨(some 10), (some (9, true)), .mv (.t 0)⟩,
           ⟨(some 11), (some (9, true)), .mv (.t 3)⟩,
           ⟨(some 12), (some (9, true)), .idxA 1 (.t 10) (.t 11)⟩,
           ⟨(some 13), (some (9, true)), .load 1 false (.t 12)⟩,
           ⟨(some 14), (some (9, true)), .bin .eql (.t 13) (.c (.int .u8 0))⟩,
           ⟨(some 15), none, .pick (.t 9) (.t 14) (.c (.bool false))⟩])
         (.cond (.t 15)
          .skip
          (.exit 0)))
        (.block 1
         (.reg [⟨(some 16), none, .mv (.t 3)⟩,
           ⟨(some 17), none, .bin .add (.t 16) (.c (.int .i64 1))⟩,
           ⟨(some 3), none, .mv (.t 17)⟩])))))
     (.seq
      (.reg [⟨(some 18), none, .mv (.t 0)⟩,
        ⟨(some 19), none, .mv (.t 3)⟩,
        ⟨(some 20), none, .slice 1 (.t 18) (some (.t 19)) none none⟩,
        ⟨(some 21), none, .app 1 1 (.c (.sl .nil 1 [])) (.t 20)⟩,
        ⟨(some 4), none, .mv (.t 21)⟩])
      (.seq
       (.seq
        (.reg [⟨(some 22), none, .mv (.t 4)⟩,
          ⟨(some 23), none, .len (.t 22)⟩,
          ⟨(some 24), none, .bin .eql (.t 23) (.c (.int .i64 0))⟩,
          ⟨(some 25), none, .mv (.t 24)⟩,
          ⟨(some 26), (some (25, false)), .mv (.t 4)⟩,
          ⟨(some 27), (some (25, false)), .idxA 1 (.t 26) (.c (.int .i64 0))⟩,
          ⟨(some 28), (some (25, false)), .load 1 false (.t 27)⟩,
          ⟨(some 29), (some (25, false)), .bin .geq (.t 28) (.c (.int .u8 128))⟩,
          ⟨(some 30), none, .pick (.t 25) (.c (.bool true)) (.t 29)⟩])
        (.cond (.t 30)
         (.reg [⟨(some 31), none, .bsl true 19031 1 1 [(.int .u8 0)] [(0, 1, (.c (.int .u8 0)))]⟩,
           ⟨(some 32), none, .mv (.t 4)⟩,
           ⟨(some 33), none, .app 1 1 (.t 31) (.t 32)⟩,
           ⟨(some 4), none, .mv (.t 33)⟩])
         .skip))
       (.seq
        (.reg [⟨(some 34), none, .mv (.t 4)⟩,
          ⟨(some 35), none, .call 13 [(.c (.int .u8 2)), (.t 34)]⟩,
          ⟨(some 2), none, .mv (.t 35)⟩])
        .ret))))))
theorem fn19 : FnC P0 G0 [] 19 = some (36, [.t 2], c19) := by kernel_rfl
/-- cartouche/der.Natural -/
noncomputable def c20 : C :=
  (.seq
   (.reg [⟨(some 2), none, .mv (.c (.sl .nil 1 []))⟩])
   (.seq
    (.block 0
     (.loop
      (.seq
       (.seq
        (.reg [⟨(some 3), none, .mv (.t 0)⟩,
          ⟨(some 4), none, .len (.t 3)⟩,
          ⟨(some 5), none, .bin .gtr (.t 4) (.c (.int .i64 1))⟩,
          ⟨(some 6), none, .mv (.t 5)⟩,
          ⟨(some 7), (some (6, true)), .mv (.t 0)⟩,
          ⟨(some 8), (some (6, true)), .idxA 1 (.t 7) (.c (.int .i64 0))⟩,
          ⟨(some 9), (some (6, true)), .load 1 false (.t 8)⟩,
          ⟨(some 10), (some (6, true)), .bin .eql (.t 9) (.c (.int .u8 0))⟩,
          ⟨(some 11), none, .pick (.t 6) (.t 10) (.c (.bool false))⟩])
        (.cond (.t 11)
         .skip
         (.exit 0)))
       (.block 1
        (.reg [⟨(some 12), none, .mv (.t 0)⟩,
          ⟨(some 13), none, .slice 1 (.t 12) (some (.c (.int .i64 1))) none none⟩,
          ⟨(some 0), none, .mv (.t 13)⟩])))))
    (.seq
     (.seq
      (.reg [⟨(some 14), none, .mv (.t 0)⟩,
        ⟨(some 15), none, .len (.t 14)⟩,
        ⟨(some 16), none, .bin .eql (.t 15) (.c (.int .i64 0))⟩,
        ⟨(some 17), none, .mv (.t 16)⟩,
        ⟨(some 18), (some (17, false)), .mv (.t 0)⟩,
        ⟨(some 19), (some (17, false)), .idxA 1 (.t 18) (.c (.int .i64 0))⟩,
        ⟨(some 20), (some (17, false)), .load 1 false (.t 19)⟩,
        ⟨(some 21), (some (17, false)), .bin .geq (.t 20) (.c (.int .u8 128))⟩,
        ⟨(some 22), none, .pick (.t 17) (.c (.bool true)) (.t 21)⟩])
      (.cond (.t 22)
       (.reg [⟨(some 23), none, .bsl true 20023 1 1 [(.int .u8 0)] [(0, 1, (.c (.int .u8 0)))]⟩,
         ⟨(some 24), none, .mv (.t 0)⟩,
         ⟨(some 25), none, .app 1 1 (.t 23) (.t 24)⟩,
         ⟨(some 0), none, .mv (.t 25)⟩])
       .skip))
     (.seq
      (.reg [⟨(some 26), none, .mv (.t 0)⟩,
        ⟨(some 27), none, .bsl true 20027 1 1 [(.sl .nil 1 [])] [(0, 1, (.t 26))]⟩,
        ⟨(some 28), none, .call 12 [(.c (.int .u8 2)), (.t 27)]⟩,
        ⟨(some 2), none, .mv (.t 28)⟩])
      .ret))))
theorem fn20 : FnC P0 G0 [] 20 = some (29, [.t 2], c20) := by kernel_rfl
/-- cartouche/der.From -/
noncomputable def c21 : C :=
  (.seq
   (.reg [⟨(some 2), none, .mv (.c (.v (.pointer none)))⟩])
   (.seq
    (.reg [⟨(some 3), none, .mv (.t 0)⟩,
      ⟨(some 4), none, .build [(.sl .nil 1 []), (.bool false)] [(0, 1, (.t 3))]⟩,
      ⟨(some 5), none, .box true 21005 2 (.t 4)⟩,
      ⟨(some 2), none, .mv (.t 5)⟩])
    .ret))
theorem fn21 : FnC P0 G0 [] 21 = some (6, [.t 2], c21) := by kernel_rfl
/-- (*cartouche/der.Reader).Done -/
noncomputable def c22 : C :=
  (.seq
   (.reg [⟨(some 2), none, .mv (.c (.bool false))⟩])
   (.seq
    (.reg [⟨(some 3), none, .mv (.t 0)⟩,
      ⟨(some 4), none, .isnil true false (.t 3)⟩,
      ⟨(some 5), none, .mv (.t 4)⟩,
      ⟨(some 6), (some (5, true)), .mv (.t 0)⟩,
      ⟨(some 7), (some (5, true)), .nck (.t 6)⟩,
      ⟨(some 8), (some (5, true)), .fldA 1 (.t 7)⟩,
      ⟨(some 9), (some (5, true)), .load 1 false (.t 8)⟩,
      ⟨(some 10), (some (5, true)), .un .not (.t 9)⟩,
      ⟨(some 11), none, .pick (.t 5) (.t 10) (.c (.bool false))⟩,
      ⟨(some 12), none, .mv (.t 11)⟩,
      ⟨(some 13), (some (12, true)), .mv (.t 0)⟩,
      ⟨(some 14), (some (12, true)), .nck (.t 13)⟩,
      ⟨(some 15), (some (12, true)), .fldA 0 (.t 14)⟩,
      ⟨(some 16), (some (12, true)), .load 1 false (.t 15)⟩,
      ⟨(some 17), (some (12, true)), .len (.t 16)⟩,
      ⟨(some 18), (some (12, true)), .bin .eql (.t 17) (.c (.int .i64 0))⟩,
      ⟨(some 19), none, .pick (.t 12) (.t 18) (.c (.bool false))⟩,
      ⟨(some 2), none, .mv (.t 19)⟩])
    .ret))
theorem fn22 : FnC P0 G0 [] 22 = some (20, [.t 2], c22) := by kernel_rfl
/-- (*cartouche/der.Reader).Next -/
noncomputable def c23 : C :=
  (.seq
   (.reg [⟨(some 4), none, .mv (.c (.bool false))⟩])
   (.seq
    (.reg [⟨(some 5), none, .mv (.t 0)⟩,
      ⟨(some 6), none, .isnil true false (.t 5)⟩,
      ⟨(some 7), none, .mv (.t 6)⟩,
      ⟨(some 8), (some (7, true)), .mv (.t 0)⟩,
      ⟨(some 9), (some (7, true)), .nck (.t 8)⟩,
      ⟨(some 10), (some (7, true)), .fldA 1 (.t 9)⟩,
      ⟨(some 11), (some (7, true)), .load 1 false (.t 10)⟩,
      ⟨(some 12), (some (7, true)), .un .not (.t 11)⟩,
      ⟨(some 13), none, .pick (.t 7) (.t 12) (.c (.bool false))⟩,
      ⟨(some 14), none, .mv (.t 13)⟩,
      ⟨(some 15), (some (14, true)), .mv (.t 0)⟩,
      ⟨(some 16), (some (14, true)), .nck (.t 15)⟩,
      ⟨(some 17), (some (14, true)), .fldA 0 (.t 16)⟩,
      ⟨(some 18), (some (14, true)), .load 1 false (.t 17)⟩,
      ⟨(some 19), (some (14, true)), .len (.t 18)⟩,
      ⟨(some 20), (some (14, true)), .bin .gtr (.t 19) (.c (.int .i64 0))⟩,
      ⟨(some 21), none, .pick (.t 14) (.t 20) (.c (.bool false))⟩,
      ⟨(some 22), none, .mv (.t 21)⟩,
      ⟨(some 23), (some (22, true)), .mv (.t 0)⟩,
      ⟨(some 24), (some (22, true)), .nck (.t 23)⟩,
      ⟨(some 25), (some (22, true)), .fldA 0 (.t 24)⟩,
      ⟨(some 26), (some (22, true)), .load 1 false (.t 25)⟩,
      ⟨(some 27), (some (22, true)), .idxA 1 (.t 26) (.c (.int .i64 0))⟩,
      ⟨(some 28), (some (22, true)), .load 1 false (.t 27)⟩,
      ⟨(some 29), (some (22, true)), .mv (.t 1)⟩,
      ⟨(some 30), (some (22, true)), .bin .eql (.t 28) (.t 29)⟩,
      ⟨(some 31), none, .pick (.t 22) (.t 30) (.c (.bool false))⟩,
      ⟨(some 4), none, .mv (.t 31)⟩])
    .ret))
theorem fn23 : FnC P0 G0 [] 23 = some (32, [.t 4], c23) := by kernel_rfl
/-- (*cartouche/der.Reader).Take -/
noncomputable def c24 : C :=
  (.seq
   (.reg [⟨(some 4), none, .mv (.c (.sl .nil 1 []))⟩])
   (.seq
    (.seq
     (.reg [⟨(some 9), none, .mv (.t 0)⟩,
       ⟨(some 10), none, .mv (.t 1)⟩,
       ⟨(some 11), none, .call 23 [(.t 9), (.t 10)]⟩,
       ⟨(some 12), none, .un .not (.t 11)⟩])
     (.cond (.t 12)
      (.seq
       (.reg [⟨(some 13), none, .mv (.t 0)⟩,
         ⟨(some 14), none, .call 30 [(.t 13)]⟩])
       (.seq
        (.reg [⟨(some 4), none, .mv (.c (.sl .nil 1 []))⟩])
        .ret))
      .skip))
    (.seq
     (.reg [⟨(some 16), none, .mv (.t 0)⟩,
       ⟨(some 17), none, .nck (.t 16)⟩,
       ⟨(some 18), none, .fldA 0 (.t 17)⟩,
       ⟨(some 19), none, .load 1 false (.t 18)⟩,
       ⟨(some 20), none, .call 14 [(.t 19)]⟩,
       ⟨(some 15), none, .mv (.t 20)⟩,
       ⟨(some 21), none, .ext (.t 15) 0⟩,
       ⟨(some 22), none, .ext (.t 15) 1⟩,
       ⟨(some 23), none, .ext (.t 15) 2⟩,
       ⟨(some 24), none, .ext (.t 15) 3⟩,
       ⟨(some 5), none, .mv (.t 21)⟩,
       ⟨(some 6), none, .mv (.t 22)⟩,
       ⟨(some 7), none, .mv (.t 23)⟩,
       ⟨(some 8), none, .mv (.t 24)⟩])
     (.seq
      (.seq
       (.reg [⟨(some 25), none, .mv (.t 8)⟩,
         ⟨(some 26), none, .bin .neq (.t 25) (.c (.int .i64 0))⟩])
       (.cond (.t 26)
        (.seq
         (.reg [⟨(some 27), none, .mv (.t 0)⟩,
           ⟨(some 28), none, .call 30 [(.t 27)]⟩])
         (.seq
          (.reg [⟨(some 4), none, .mv (.c (.sl .nil 1 []))⟩])
          .ret))
        .skip))
      (.seq
       (.reg [⟨(some 29), none, .mv (.t 0)⟩,
         ⟨(some 30), none, .mv (.t 7)⟩,
         ⟨(some 31), none, .nck (.t 29)⟩,
         ⟨(some 32), none, .fldA 0 (.t 31)⟩,
         ⟨none, none, .store 1 (.t 32) (.t 30)⟩])
       (.seq
        (.reg [⟨(some 33), none, .mv (.t 6)⟩,
          ⟨(some 4), none, .mv (.t 33)⟩])
        .ret))))))
theorem fn24 : FnC P0 G0 [] 24 = some (34, [.t 4], c24) := by kernel_rfl
/-- (*cartouche/der.Reader).In -/
noncomputable def c25 : C :=
  (.seq
   (.reg [⟨(some 4), none, .mv (.c (.v (.pointer none)))⟩])
   (.seq
    (.reg [⟨(some 6), none, .mv (.t 0)⟩,
      ⟨(some 7), none, .mv (.t 1)⟩,
      ⟨(some 8), none, .call 24 [(.t 6), (.t 7)]⟩,
      ⟨(some 5), none, .mv (.t 8)⟩])
    (.seq
     (.reg [⟨(some 9), none, .mv (.t 5)⟩,
       ⟨(some 10), none, .mv (.t 0)⟩,
       ⟨(some 11), none, .isnil false false (.t 10)⟩,
       ⟨(some 12), none, .mv (.t 11)⟩,
       ⟨(some 13), (some (12, false)), .mv (.t 0)⟩,
       ⟨(some 14), (some (12, false)), .nck (.t 13)⟩,
       ⟨(some 15), (some (12, false)), .fldA 1 (.t 14)⟩,
       ⟨(some 16), (some (12, false)), .load 1 false (.t 15)⟩,
       ⟨(some 17), none, .pick (.t 12) (.c (.bool true)) (.t 16)⟩,
       ⟨(some 18), none, .build [(.sl .nil 1 []), (.bool false)] [(0, 1, (.t 9)), (1, 1, (.t 17))]⟩,
       ⟨(some 19), none, .box true 25019 2 (.t 18)⟩,
       ⟨(some 4), none, .mv (.t 19)⟩])
     .ret)))
theorem fn25 : FnC P0 G0 [] 25 = some (20, [.t 4], c25) := by kernel_rfl
/-- cartouche/der.When -/
noncomputable def c26 : C :=
  (.seq
   (.reg [⟨(some 2), none, .mv (.c (.sl .nil 1 []))⟩])
   (.seq
    (.seq
     (.reg [⟨(some 10), none, .mv (.t 0)⟩,
       ⟨(some 11), none, .bin .geq (.t 10) (.c (.int .u64 253402300800))⟩])
     (.cond (.t 11)
      (.seq
       (.reg [⟨(some 2), none, .mv (.c (.sl .nil 1 []))⟩])
       .ret)
      .skip))
    (.seq
     (.reg [⟨(some 12), none, .mv (.t 0)⟩,
       ⟨(some 13), none, .bin .quo (.t 12) (.c (.int .u64 86400))⟩,
       ⟨(some 14), none, .cvt .i64 (.t 13)⟩,
       ⟨(some 15), none, .mv (.t 0)⟩,
       ⟨(some 16), none, .bin .rem (.t 15) (.c (.int .u64 86400))⟩,
       ⟨(some 17), none, .cvt .i64 (.t 16)⟩,
       ⟨(some 3), none, .mv (.t 14)⟩,
       ⟨(some 4), none, .mv (.t 17)⟩])
     (.seq
      (.reg [⟨(some 5), none, .mv (.c (.int .i64 1970))⟩,
        ⟨(some 6), none, .mv (.c (.int .i64 1))⟩])
      (.seq
       (.block 0
        (.loop
         (.seq
          (.seq
           (.reg [⟨(some 18), none, .mv (.t 3)⟩,
             ⟨(some 19), none, .mv (.t 5)⟩,
             ⟨(some 20), none, .call 31 [(.t 19), (.c (.int .i64 2))]⟩,
             ⟨(some 21), none, .bin .add (.c (.int .i64 337)) (.t 20)⟩,
             ⟨(some 22), none, .bin .geq (.t 18) (.t 21)⟩])
           (.cond (.t 22)
            .skip
            (.exit 0)))
          (.block 1
           (.seq
            (.reg [⟨(some 23), none, .mv (.t 3)⟩,
              ⟨(some 24), none, .mv (.t 5)⟩,
              ⟨(some 25), none, .call 31 [(.t 24), (.c (.int .i64 2))]⟩,
              ⟨(some 26), none, .bin .add (.c (.int .i64 337)) (.t 25)⟩,
              ⟨(some 27), none, .bin .sub (.t 23) (.t 26)⟩,
              ⟨(some 3), none, .mv (.t 27)⟩])
            (.reg [⟨(some 28), none, .mv (.t 5)⟩,
              ⟨(some 29), none, .bin .add (.t 28) (.c (.int .i64 1))⟩,
              ⟨(some 5), none, .mv (.t 29)⟩]))))))
       (.seq
        (.block 2
         (.loop
          (.seq
           (.seq
            (.reg [⟨(some 30), none, .mv (.t 3)⟩,
              ⟨(some 31), none, .mv (.t 5)⟩,
              ⟨(some 32), none, .mv (.t 6)⟩,
              ⟨(some 33), none, .call 31 [(.t 31), (.t 32)]⟩,
              ⟨(some 34), none, .bin .geq (.t 30) (.t 33)⟩])
            (.cond (.t 34)
             .skip
             (.exit 2)))
           (.block 3
            (.seq
             (.reg [⟨(some 35), none, .mv (.t 3)⟩,
               ⟨(some 36), none, .mv (.t 5)⟩,
               ⟨(some 37), none, .mv (.t 6)⟩,
               ⟨(some 38), none, .call 31 [(.t 36), (.t 37)]⟩,
               ⟨(some 39), none, .bin .sub (.t 35) (.t 38)⟩,
               ⟨(some 3), none, .mv (.t 39)⟩])
             (.reg [⟨(some 40), none, .mv (.t 6)⟩,
               ⟨(some 41), none, .bin .add (.t 40) (.c (.int .i64 1))⟩,
               ⟨(some 6), none, .mv (.t 41)⟩]))))))
        (.seq
         (.reg [⟨(some 7), none, .mv (.c (.sl .nil 1 []))⟩])
         (.seq
          (.seq
           (.reg [⟨(some 42), none, .mv (.t 5)⟩,
             ⟨(some 43), none, .bin .quo (.t 42) (.c (.int .i64 100))⟩,
             ⟨(some 44), none, .mv (.t 5)⟩,
             ⟨(some 45), none, .bin .rem (.t 44) (.c (.int .i64 100))⟩,
             ⟨(some 46), none, .mv (.t 6)⟩,
             ⟨(some 47), none, .mv (.t 3)⟩,
             ⟨(some 48), none, .bin .add (.t 47) (.c (.int .i64 1))⟩,
             ⟨(some 49), none, .mv (.t 4)⟩,
             ⟨(some 50), none, .bin .quo (.t 49) (.c (.int .i64 3600))⟩,
             ⟨(some 51), none, .mv (.t 4)⟩,
             ⟨(some 52), none, .bin .quo (.t 51) (.c (.int .i64 60))⟩,
             ⟨(some 53), none, .bin .rem (.t 52) (.c (.int .i64 60))⟩,
             ⟨(some 54), none, .mv (.t 4)⟩,
             ⟨(some 55), none, .bin .rem (.t 54) (.c (.int .i64 60))⟩,
             ⟨(some 56), none, .bsl true 26056 7 1 [(.int .i64 0)] [(0, 1, (.t 43)), (1, 1, (.t 45)), (2, 1, (.t 46)), (3, 1, (.t 48)), (4, 1, (.t 50)), (5, 1, (.t 53)), (6, 1, (.t 55))]⟩,
             ⟨(some 57), none, .len (.t 56)⟩,
             ⟨(some 58), none, .mv (.c (.int .i64 0))⟩])
           (.block 4
            (.loop
             (.seq
              (.reg [⟨(some 59), none, .bin .lss (.t 58) (.t 57)⟩])
              (.seq
               (.cond (.t 59)
                .skip
                (.exit 4))
               (.seq
                (.block 5
                 (.seq
                  (.reg [⟨(some 60), none, .idxA 1 (.t 56) (.t 58)⟩,
                    ⟨(some 61), none, .load 1 false (.t 60)⟩,
                    ⟨(some 9), none, .mv (.t 61)⟩])
                  (.reg [⟨(some 62), none, .mv (.t 7)⟩,
                    ⟨(some 63), none, .mv (.t 9)⟩,
                    ⟨(some 64), none, .bin .quo (.t 63) (.c (.int .i64 10))⟩,
                    ⟨(some 65), none, .bin .add (.c (.int .i64 48)) (.t 64)⟩,
                    ⟨(some 66), none, .cvt .u8 (.t 65)⟩,
                    ⟨(some 67), none, .mv (.t 9)⟩,
                    ⟨(some 68), none, .bin .rem (.t 67) (.c (.int .i64 10))⟩,
                    ⟨(some 69), none, .bin .add (.c (.int .i64 48)) (.t 68)⟩,
                    ⟨(some 70), none, .cvt .u8 (.t 69)⟩,
                    ⟨(some 71), none, .bsl true 26071 2 1 [(.int .u8 0)] [(0, 1, (.t 66)), (1, 1, (.t 70))]⟩,
                    ⟨(some 72), none, .app 1 1 (.t 62) (.t 71)⟩,
                    ⟨(some 7), none, .mv (.t 72)⟩])))
                (.reg [⟨(some 73), none, .bin .add (.t 58) (.c (.int .i64 1))⟩,
                  ⟨(some 58), none, .mv (.t 73)⟩])))))))
          (.seq
           (.reg [⟨(some 74), none, .mv (.t 7)⟩,
             ⟨(some 75), none, .bsl true 26075 1 1 [(.int .u8 0)] [(0, 1, (.c (.int .u8 90)))]⟩,
             ⟨(some 76), none, .app 1 1 (.t 74) (.t 75)⟩,
             ⟨(some 7), none, .mv (.t 76)⟩])
           (.seq
            (.seq
             (.reg [⟨(some 77), none, .mv (.t 5)⟩,
               ⟨(some 78), none, .bin .lss (.t 77) (.c (.int .i64 2050))⟩])
             (.cond (.t 78)
              (.seq
               (.reg [⟨(some 79), none, .mv (.t 7)⟩,
                 ⟨(some 80), none, .slice 1 (.t 79) (some (.c (.int .i64 2))) none none⟩,
                 ⟨(some 81), none, .bsl true 26081 1 1 [(.sl .nil 1 [])] [(0, 1, (.t 80))]⟩,
                 ⟨(some 82), none, .call 12 [(.c (.int .u8 23)), (.t 81)]⟩,
                 ⟨(some 2), none, .mv (.t 82)⟩])
               .ret)
              .skip))
            (.seq
             (.reg [⟨(some 83), none, .mv (.t 7)⟩,
               ⟨(some 84), none, .bsl true 26084 1 1 [(.sl .nil 1 [])] [(0, 1, (.t 83))]⟩,
               ⟨(some 85), none, .call 12 [(.c (.int .u8 24)), (.t 84)]⟩,
               ⟨(some 2), none, .mv (.t 85)⟩])
             .ret)))))))))))
theorem fn26 : FnC P0 G0 [] 26 = some (86, [.t 2], c26) := by kernel_rfl
/-- cartouche/der.Time -/
noncomputable def c27 : C :=
  (.seq
   (.reg [⟨(some 4), none, .mv (.c (.int .u64 0))⟩,
     ⟨(some 5), none, .mv (.c (.bool false))⟩])
   (.seq
    (.reg [⟨(some 6), none, .mv (.c (.int .i64 0))⟩])
    (.seq
     (.block 0
      (.seq
       (.reg [⟨(some 13), none, .mv (.t 0)⟩,
         ⟨(some 14), none, .bin .eql (.t 13) (.c (.int .u8 23))⟩,
         ⟨(some 15), none, .mv (.t 14)⟩,
         ⟨(some 16), (some (15, true)), .mv (.t 1)⟩,
         ⟨(some 17), (some (15, true)), .len (.t 16)⟩,
         ⟨(some 18), (some (15, true)), .bin .eql (.t 17) (.c (.int .i64 13))⟩,
         ⟨(some 19), none, .pick (.t 15) (.t 18) (.c (.bool false))⟩,
         ⟨(some 12), none, .mv (.t 19)⟩])
       (.cond (.t 12)
        (.seq
         (.seq
          (.reg [⟨(some 20), none, .mv (.t 1)⟩,
            ⟨(some 21), none, .call 32 [(.t 20)]⟩,
            ⟨(some 6), none, .mv (.t 21)⟩])
          (.seq
           (.reg [⟨(some 22), none, .mv (.t 6)⟩,
             ⟨(some 23), none, .bin .geq (.t 22) (.c (.int .i64 0))⟩,
             ⟨(some 24), none, .mv (.t 23)⟩,
             ⟨(some 25), (some (24, true)), .mv (.t 6)⟩,
             ⟨(some 26), (some (24, true)), .bin .lss (.t 25) (.c (.int .i64 50))⟩,
             ⟨(some 27), none, .pick (.t 24) (.t 26) (.c (.bool false))⟩])
           (.cond (.t 27)
            (.reg [⟨(some 28), none, .mv (.t 6)⟩,
              ⟨(some 29), none, .bin .add (.t 28) (.c (.int .i64 100))⟩,
              ⟨(some 6), none, .mv (.t 29)⟩])
            .skip)))
         (.seq
          (.reg [⟨(some 30), none, .mv (.t 6)⟩,
            ⟨(some 31), none, .bin .add (.t 30) (.c (.int .i64 1900))⟩,
            ⟨(some 6), none, .mv (.t 31)⟩])
          (.reg [⟨(some 32), none, .mv (.t 1)⟩,
            ⟨(some 33), none, .slice 1 (.t 32) (some (.c (.int .i64 2))) none none⟩,
            ⟨(some 1), none, .mv (.t 33)⟩])))
        (.seq
         (.reg [⟨(some 35), none, .mv (.t 0)⟩,
           ⟨(some 36), none, .bin .eql (.t 35) (.c (.int .u8 24))⟩,
           ⟨(some 37), none, .mv (.t 36)⟩,
           ⟨(some 38), (some (37, true)), .mv (.t 1)⟩,
           ⟨(some 39), (some (37, true)), .len (.t 38)⟩,
           ⟨(some 40), (some (37, true)), .bin .eql (.t 39) (.c (.int .i64 15))⟩,
           ⟨(some 41), none, .pick (.t 37) (.t 40) (.c (.bool false))⟩,
           ⟨(some 34), none, .mv (.t 41)⟩])
         (.cond (.t 34)
          (.seq
           (.reg [⟨(some 42), none, .mv (.t 1)⟩,
             ⟨(some 45), none, .mv (.t 1)⟩,
             ⟨(some 46), none, .slice 1 (.t 45) (some (.c (.int .i64 2))) none none⟩,
             ⟨(some 43), none, .call 32 [(.t 42)]⟩,
             ⟨(some 44), none, .bin .mul (.t 43) (.c (.int .i64 100))⟩,
             ⟨(some 47), none, .call 32 [(.t 46)]⟩,
             ⟨(some 48), none, .bin .add (.t 44) (.t 47)⟩,
             ⟨(some 6), none, .mv (.t 48)⟩])
           (.seq
            (.seq
             (.reg [⟨(some 49), none, .mv (.t 1)⟩,
               ⟨(some 50), none, .call 32 [(.t 49)]⟩,
               ⟨(some 51), none, .bin .lss (.t 50) (.c (.int .i64 0))⟩,
               ⟨(some 52), none, .mv (.t 51)⟩,
               ⟨(some 53), (some (52, false)), .mv (.t 1)⟩,
               ⟨(some 54), (some (52, false)), .slice 1 (.t 53) (some (.c (.int .i64 2))) none none⟩,
               ⟨(some 55), (some (52, false)), .call 32 [(.t 54)]⟩,
               ⟨(some 56), (some (52, false)), .bin .lss (.t 55) (.c (.int .i64 0))⟩,
               ⟨(some 57), none, .pick (.t 52) (.c (.bool true)) (.t 56)⟩])
             (.cond (.t 57)
              (.seq
               (.reg [⟨(some 4), none, .mv (.c (.int .u64 0))⟩,
                 ⟨(some 5), none, .mv (.c (.bool false))⟩])
               .ret)
              .skip))
            (.reg [⟨(some 58), none, .mv (.t 1)⟩,
              ⟨(some 59), none, .slice 1 (.t 58) (some (.c (.int .i64 4))) none none⟩,
              ⟨(some 1), none, .mv (.t 59)⟩])))
          (.seq
           (.reg [⟨(some 4), none, .mv (.c (.int .u64 0))⟩,
             ⟨(some 5), none, .mv (.c (.bool false))⟩])
           .ret))))))
     (.seq
      (.reg [⟨(some 7), none, .alloc 27007 [(.int .i64 0), (.int .i64 0), (.int .i64 0), (.int .i64 0), (.int .i64 0)]⟩])
      (.seq
       (.seq
        (.reg [⟨(some 60), none, .mv (.c (.int .i64 0))⟩])
        (.block 1
         (.loop
          (.seq
           (.reg [⟨(some 61), none, .bin .lss (.t 60) (.c (.int .i64 5))⟩])
           (.seq
            (.cond (.t 61)
             .skip
             (.exit 1))
            (.seq
             (.block 2
              (.seq
               (.reg [⟨(some 62), none, .mv (.t 60)⟩,
                 ⟨(some 8), none, .mv (.t 62)⟩])
               (.reg [⟨(some 63), none, .mv (.t 8)⟩,
                 ⟨(some 64), none, .mv (.t 1)⟩,
                 ⟨(some 65), none, .mv (.t 8)⟩,
                 ⟨(some 66), none, .bin .mul (.c (.int .i64 2)) (.t 65)⟩,
                 ⟨(some 67), none, .slice 1 (.t 64) (some (.t 66)) none none⟩,
                 ⟨(some 68), none, .call 32 [(.t 67)]⟩,
                 ⟨(some 69), none, .idxP 5 1 (.t 7) (.t 63)⟩,
                 ⟨none, none, .store 1 (.t 69) (.t 68)⟩])))
             (.reg [⟨(some 70), none, .bin .add (.t 60) (.c (.int .i64 1))⟩,
               ⟨(some 60), none, .mv (.t 70)⟩])))))))
       (.seq
        (.seq
         (.reg [⟨(some 71), none, .mv (.t 6)⟩,
           ⟨(some 72), none, .bin .lss (.t 71) (.c (.int .i64 1970))⟩,
           ⟨(some 73), none, .mv (.t 72)⟩,
           ⟨(some 74), (some (73, false)), .mv (.t 1)⟩,
           ⟨(some 75), (some (73, false)), .idxA 1 (.t 74) (.c (.int .i64 10))⟩,
           ⟨(some 76), (some (73, false)), .load 1 false (.t 75)⟩,
           ⟨(some 77), (some (73, false)), .bin .neq (.t 76) (.c (.int .u8 90))⟩,
           ⟨(some 78), none, .pick (.t 73) (.c (.bool true)) (.t 77)⟩,
           ⟨(some 79), none, .mv (.t 78)⟩,
           ⟨(some 80), (some (79, false)), .idxP 5 1 (.t 7) (.c (.int .i64 0))⟩,
           ⟨(some 81), (some (79, false)), .load 1 false (.t 80)⟩,
           ⟨(some 82), (some (79, false)), .bin .lss (.t 81) (.c (.int .i64 1))⟩,
           ⟨(some 83), none, .pick (.t 79) (.c (.bool true)) (.t 82)⟩,
           ⟨(some 84), none, .mv (.t 83)⟩,
           ⟨(some 85), (some (84, false)), .idxP 5 1 (.t 7) (.c (.int .i64 0))⟩,
           ⟨(some 86), (some (84, false)), .load 1 false (.t 85)⟩,
           ⟨(some 87), (some (84, false)), .bin .gtr (.t 86) (.c (.int .i64 12))⟩,
           ⟨(some 88), none, .pick (.t 84) (.c (.bool true)) (.t 87)⟩,
           ⟨(some 89), none, .mv (.t 88)⟩,
           ⟨(some 90), (some (89, false)), .idxP 5 1 (.t 7) (.c (.int .i64 1))⟩,
           ⟨(some 91), (some (89, false)), .load 1 false (.t 90)⟩,
           ⟨(some 92), (some (89, false)), .bin .lss (.t 91) (.c (.int .i64 1))⟩,
           ⟨(some 93), none, .pick (.t 89) (.c (.bool true)) (.t 92)⟩,
           ⟨(some 94), none, .mv (.t 93)⟩,
           ⟨(some 95), (some (94, false)), .idxP 5 1 (.t 7) (.c (.int .i64 1))⟩,
           ⟨(some 96), (some (94, false)), .load 1 false (.t 95)⟩,
           ⟨(some 97), (some (94, false)), .mv (.t 6)⟩,
           ⟨(some 98), (some (94, false)), .idxP 5 1 (.t 7) (.c (.int .i64 0))⟩,
           ⟨(some 99), (some (94, false)), .load 1 false (.t 98)⟩,
           ⟨(some 100), (some (94, false)), .pcall [] 31 [(.t 97), (.t 99)]⟩,
           ⟨(some 101), (some (94, false)), .bin .gtr (.t 96) (.t 100)⟩,
           ⟨(some 102), none, .pick (.t 94) (.c (.bool true)) (.t 101)⟩,
           ⟨(some 103), none, .mv (.t 102)⟩,
           ⟨(some 104), (some (103, false)), .idxP 5 1 (.t 7) (.c (.int .i64 2))⟩,
           ⟨(some 105), (some (103, false)), .load 1 false (.t 104)⟩,
           ⟨(some 106), (some (103, false)), .bin .lss (.t 105) (.c (.int .i64 0))⟩,
           ⟨(some 107), none, .pick (.t 103) (.c (.bool true)) (.t 106)⟩,
           ⟨(some 108), none, .mv (.t 107)⟩,
           ⟨(some 109), (some (108, false)), .idxP 5 1 (.t 7) (.c (.int .i64 2))⟩,
           ⟨(some 110), (some (108, false)), .load 1 false (.t 109)⟩,
           ⟨(some 111), (some (108, false)), .bin .gtr (.t 110) (.c (.int .i64 23))⟩,
           ⟨(some 112), none, .pick (.t 108) (.c (.bool true)) (.t 111)⟩,
           ⟨(some 113), none, .mv (.t 112)⟩,
           ⟨(some 114), (some (113, false)), .idxP 5 1 (.t 7) (.c (.int .i64 3))⟩,
           ⟨(some 115), (some (113, false)), .load 1 false (.t 114)⟩,
           ⟨(some 116), (some (113, false)), .bin .lss (.t 115) (.c (.int .i64 0))⟩,
           ⟨(some 117), none, .pick (.t 113) (.c (.bool true)) (.t 116)⟩,
           ⟨(some 118), none, .mv (.t 117)⟩,
           ⟨(some 119), (some (118, false)), .idxP 5 1 (.t 7) (.c (.int .i64 3))⟩,
           ⟨(some 120), (some (118, false)), .load 1 false (.t 119)⟩,
           ⟨(some 121), (some (118, false)), .bin .gtr (.t 120) (.c (.int .i64 59))⟩,
           ⟨(some 122), none, .pick (.t 118) (.c (.bool true)) (.t 121)⟩,
           ⟨(some 123), none, .mv (.t 122)⟩,
           ⟨(some 124), (some (123, false)), .idxP 5 1 (.t 7) (.c (.int .i64 4))⟩,
           ⟨(some 125), (some (123, false)), .load 1 false (.t 124)⟩,
           ⟨(some 126), (some (123, false)), .bin .lss (.t 125) (.c (.int .i64 0))⟩,
           ⟨(some 127), none, .pick (.t 123) (.c (.bool true)) (.t 126)⟩,
           ⟨(some 128), none, .mv (.t 127)⟩,
           ⟨(some 129), (some (128, false)), .idxP 5 1 (.t 7) (.c (.int .i64 4))⟩,
           ⟨(some 130), (some (128, false)), .load 1 false (.t 129)⟩,
           ⟨(some 131), (some (128, false)), .bin .gtr (.t 130) (.c (.int .i64 59))⟩,
           ⟨(some 132), none, .pick (.t 128) (.c (.bool true)) (.t 131)⟩])
         (.cond (.t 132)
          (.seq
           (.reg [⟨(some 4), none, .mv (.c (.int .u64 0))⟩,
             ⟨(some 5), none, .mv (.c (.bool false))⟩])
           .ret)
          .skip))
        (.seq
         (.reg [⟨(some 133), none, .idxP 5 1 (.t 7) (.c (.int .i64 1))⟩,
           ⟨(some 134), none, .load 1 false (.t 133)⟩,
           ⟨(some 135), none, .bin .sub (.t 134) (.c (.int .i64 1))⟩,
           ⟨(some 9), none, .mv (.t 135)⟩])
         (.seq
          (.seq
           (.reg [⟨(some 10), none, .mv (.c (.int .i64 1))⟩])
           (.block 3
            (.loop
             (.seq
              (.seq
               (.reg [⟨(some 136), none, .mv (.t 10)⟩,
                 ⟨(some 137), none, .idxP 5 1 (.t 7) (.c (.int .i64 0))⟩,
                 ⟨(some 138), none, .load 1 false (.t 137)⟩,
                 ⟨(some 139), none, .bin .lss (.t 136) (.t 138)⟩])
               (.cond (.t 139)
                .skip
                (.exit 3)))
              (.seq
               (.block 4
                (.reg [⟨(some 142), none, .mv (.t 9)⟩,
                  ⟨(some 143), none, .mv (.t 6)⟩,
                  ⟨(some 144), none, .mv (.t 10)⟩,
                  ⟨(some 145), none, .call 31 [(.t 143), (.t 144)]⟩,
                  ⟨(some 146), none, .bin .add (.t 142) (.t 145)⟩,
                  ⟨(some 9), none, .mv (.t 146)⟩]))
               (.reg [⟨(some 140), none, .mv (.t 10)⟩,
                 ⟨(some 141), none, .bin .add (.t 140) (.c (.int .i64 1))⟩,
                 ⟨(some 10), none, .mv (.t 141)⟩]))))))
          (.seq
           (.seq
            (.reg [⟨(some 11), none, .mv (.c (.int .i64 1970))⟩])
            (.block 5
             (.loop
              (.seq
               (.seq
                (.reg [⟨(some 147), none, .mv (.t 11)⟩,
                  ⟨(some 148), none, .mv (.t 6)⟩,
                  ⟨(some 149), none, .bin .lss (.t 147) (.t 148)⟩])
                (.cond (.t 149)
                 .skip
                 (.exit 5)))
               (.seq
                (.block 6
                 (.reg [⟨(some 152), none, .mv (.t 9)⟩,
                   ⟨(some 153), none, .mv (.t 11)⟩,
                   ⟨(some 154), none, .call 31 [(.t 153), (.c (.int .i64 2))]⟩,
                   ⟨(some 155), none, .bin .add (.c (.int .i64 337)) (.t 154)⟩,
                   ⟨(some 156), none, .bin .add (.t 152) (.t 155)⟩,
                   ⟨(some 9), none, .mv (.t 156)⟩]))
                (.reg [⟨(some 150), none, .mv (.t 11)⟩,
                  ⟨(some 151), none, .bin .add (.t 150) (.c (.int .i64 1))⟩,
                  ⟨(some 11), none, .mv (.t 151)⟩]))))))
           (.seq
            (.reg [⟨(some 157), none, .mv (.t 9)⟩,
              ⟨(some 158), none, .bin .mul (.t 157) (.c (.int .i64 24))⟩,
              ⟨(some 159), none, .idxP 5 1 (.t 7) (.c (.int .i64 2))⟩,
              ⟨(some 160), none, .load 1 false (.t 159)⟩,
              ⟨(some 161), none, .bin .add (.t 158) (.t 160)⟩,
              ⟨(some 162), none, .bin .mul (.t 161) (.c (.int .i64 60))⟩,
              ⟨(some 163), none, .idxP 5 1 (.t 7) (.c (.int .i64 3))⟩,
              ⟨(some 164), none, .load 1 false (.t 163)⟩,
              ⟨(some 165), none, .bin .add (.t 162) (.t 164)⟩,
              ⟨(some 166), none, .bin .mul (.t 165) (.c (.int .i64 60))⟩,
              ⟨(some 167), none, .idxP 5 1 (.t 7) (.c (.int .i64 4))⟩,
              ⟨(some 168), none, .load 1 false (.t 167)⟩,
              ⟨(some 169), none, .bin .add (.t 166) (.t 168)⟩,
              ⟨(some 170), none, .cvt .u64 (.t 169)⟩,
              ⟨(some 4), none, .mv (.t 170)⟩,
              ⟨(some 5), none, .mv (.c (.bool true))⟩])
            .ret))))))))))
theorem fn27 : FnC P0 G0 [] 27 = some (171, [.t 4, .t 5], c27) := by kernel_rfl
/-- cartouche/cartoucheref12.Time -/
noncomputable def c28 : C :=
  (.seq
   (.reg [⟨(some 4), none, .mv (.c (.int .u64 0))⟩,
     ⟨(some 5), none, .mv (.c (.bool false))⟩])
   (.seq
    (.reg [⟨(some 6), none, .mv (.c (.int .i64 2))⟩])
    (.seq
     (.seq
      (.reg [⟨(some 10), none, .mv (.t 0)⟩,
        ⟨(some 11), none, .bin .eql (.t 10) (.c (.int .u8 24))⟩])
      (.cond (.t 11)
       (.reg [⟨(some 6), none, .mv (.c (.int .i64 4))⟩])
       .skip))
     (.seq
      (.seq
       (.reg [⟨(some 12), none, .mv (.t 0)⟩,
         ⟨(some 13), none, .bin .neq (.t 12) (.c (.int .u8 23))⟩,
         ⟨(some 14), none, .mv (.t 13)⟩,
         ⟨(some 15), (some (14, true)), .mv (.t 0)⟩,
         ⟨(some 16), (some (14, true)), .bin .neq (.t 15) (.c (.int .u8 24))⟩,
         ⟨(some 17), none, .pick (.t 14) (.t 16) (.c (.bool false))⟩,
         ⟨(some 18), none, .mv (.t 17)⟩,
         ⟨(some 19), (some (18, false)), .mv (.t 1)⟩,
         ⟨(some 20), (some (18, false)), .len (.t 19)⟩,
         ⟨(some 21), (some (18, false)), .mv (.t 6)⟩,
         ⟨(some 22), (some (18, false)), .bin .add (.t 21) (.c (.int .i64 11))⟩,
         ⟨(some 23), (some (18, false)), .bin .neq (.t 20) (.t 22)⟩,
         ⟨(some 24), none, .pick (.t 18) (.c (.bool true)) (.t 23)⟩,
         ⟨(some 25), none, .mv (.t 24)⟩,
         ⟨(some 26), (some (25, false)), .mv (.t 1)⟩,
         ⟨(some 27), (some (25, false)), .mv (.t 6)⟩,
         ⟨(some 28), (some (25, false)), .bin .add (.t 27) (.c (.int .i64 10))⟩,
         ⟨(some 29), (some (25, false)), .idxA 1 (.t 26) (.t 28)⟩,
         ⟨(some 30), (some (25, false)), .load 1 false (.t 29)⟩,
         ⟨(some 31), (some (25, false)), .bin .neq (.t 30) (.c (.int .u8 90))⟩,
         ⟨(some 32), none, .pick (.t 25) (.c (.bool true)) (.t 31)⟩])
       (.cond (.t 32)
        (.seq
         (.reg [⟨(some 4), none, .mv (.c (.int .u64 0))⟩,
           ⟨(some 5), none, .mv (.c (.bool false))⟩])
         .ret)
        .skip))
      (.seq
       (.reg [⟨(some 33), none, .mv (.t 1)⟩,
         ⟨(some 34), none, .mv (.t 6)⟩,
         ⟨(some 35), none, .slice 1 (.t 33) none (some (.t 34)) none⟩,
         ⟨(some 36), none, .call 33 [(.t 35)]⟩,
         ⟨(some 7), none, .mv (.t 36)⟩])
       (.seq
        (.reg [⟨(some 8), none, .alloc 28008 [(.int .i64 0), (.int .i64 0), (.int .i64 0), (.int .i64 0), (.int .i64 0)]⟩])
        (.seq
         (.seq
          (.reg [⟨(some 9), none, .mv (.c (.int .i64 0))⟩])
          (.block 0
           (.loop
            (.seq
             (.seq
              (.reg [⟨(some 37), none, .mv (.t 9)⟩,
                ⟨(some 38), none, .bin .lss (.t 37) (.c (.int .i64 5))⟩])
              (.cond (.t 38)
               .skip
               (.exit 0)))
             (.seq
              (.block 1
               (.seq
                (.reg [⟨(some 41), none, .mv (.t 9)⟩,
                  ⟨(some 42), none, .mv (.t 1)⟩,
                  ⟨(some 43), none, .mv (.t 6)⟩,
                  ⟨(some 44), none, .mv (.t 9)⟩,
                  ⟨(some 45), none, .bin .mul (.c (.int .i64 2)) (.t 44)⟩,
                  ⟨(some 46), none, .bin .add (.t 43) (.t 45)⟩,
                  ⟨(some 47), none, .mv (.t 6)⟩,
                  ⟨(some 48), none, .mv (.t 9)⟩,
                  ⟨(some 49), none, .bin .mul (.c (.int .i64 2)) (.t 48)⟩,
                  ⟨(some 50), none, .bin .add (.t 47) (.t 49)⟩,
                  ⟨(some 51), none, .bin .add (.t 50) (.c (.int .i64 2))⟩,
                  ⟨(some 52), none, .slice 1 (.t 42) (some (.t 46)) (some (.t 51)) none⟩,
                  ⟨(some 53), none, .call 33 [(.t 52)]⟩,
                  ⟨(some 54), none, .idxP 5 1 (.t 8) (.t 41)⟩,
                  ⟨none, none, .store 1 (.t 54) (.t 53)⟩])
                (.seq
                 (.reg [⟨(some 55), none, .mv (.t 9)⟩,
                   ⟨(some 56), none, .idxP 5 1 (.t 8) (.t 55)⟩,
                   ⟨(some 57), none, .load 1 false (.t 56)⟩,
                   ⟨(some 58), none, .bin .lss (.t 57) (.c (.int .i64 0))⟩])
                 (.cond (.t 58)
                  (.seq
                   (.reg [⟨(some 4), none, .mv (.c (.int .u64 0))⟩,
                     ⟨(some 5), none, .mv (.c (.bool false))⟩])
                   .ret)
                  .skip))))
              (.reg [⟨(some 39), none, .mv (.t 9)⟩,
                ⟨(some 40), none, .bin .add (.t 39) (.c (.int .i64 1))⟩,
                ⟨(some 9), none, .mv (.t 40)⟩]))))))
         (.seq
          (.seq
           (.reg [⟨(some 59), none, .mv (.t 7)⟩,
             ⟨(some 60), none, .bin .lss (.t 59) (.c (.int .i64 0))⟩])
           (.cond (.t 60)
            (.seq
             (.reg [⟨(some 4), none, .mv (.c (.int .u64 0))⟩,
               ⟨(some 5), none, .mv (.c (.bool false))⟩])
             .ret)
            .skip))
          (.seq
           (.seq
            (.reg [⟨(some 61), none, .mv (.t 6)⟩,
              ⟨(some 62), none, .bin .eql (.t 61) (.c (.int .i64 2))⟩])
            (.cond (.t 62)
             (.seq
              (.reg [⟨(some 63), none, .mv (.t 7)⟩,
                ⟨(some 64), none, .bin .add (.t 63) (.c (.int .i64 1900))⟩,
                ⟨(some 7), none, .mv (.t 64)⟩])
              (.seq
               (.reg [⟨(some 65), none, .mv (.t 7)⟩,
                 ⟨(some 66), none, .bin .lss (.t 65) (.c (.int .i64 1950))⟩])
               (.cond (.t 66)
                (.reg [⟨(some 67), none, .mv (.t 7)⟩,
                  ⟨(some 68), none, .bin .add (.t 67) (.c (.int .i64 100))⟩,
                  ⟨(some 7), none, .mv (.t 68)⟩])
                .skip)))
             .skip))
           (.seq
            (.seq
             (.reg [⟨(some 69), none, .mv (.t 7)⟩,
               ⟨(some 70), none, .bin .lss (.t 69) (.c (.int .i64 1970))⟩,
               ⟨(some 71), none, .mv (.t 70)⟩,
               ⟨(some 72), (some (71, false)), .idxP 5 1 (.t 8) (.c (.int .i64 0))⟩,
               ⟨(some 73), (some (71, false)), .load 1 false (.t 72)⟩,
               ⟨(some 74), (some (71, false)), .bin .lss (.t 73) (.c (.int .i64 1))⟩,
               ⟨(some 75), none, .pick (.t 71) (.c (.bool true)) (.t 74)⟩,
               ⟨(some 76), none, .mv (.t 75)⟩,
               ⟨(some 77), (some (76, false)), .idxP 5 1 (.t 8) (.c (.int .i64 0))⟩,
               ⟨(some 78), (some (76, false)), .load 1 false (.t 77)⟩,
               ⟨(some 79), (some (76, false)), .bin .gtr (.t 78) (.c (.int .i64 12))⟩,
               ⟨(some 80), none, .pick (.t 76) (.c (.bool true)) (.t 79)⟩,
               ⟨(some 81), none, .mv (.t 80)⟩,
               ⟨(some 82), (some (81, false)), .idxP 5 1 (.t 8) (.c (.int .i64 1))⟩,
               ⟨(some 83), (some (81, false)), .load 1 false (.t 82)⟩,
               ⟨(some 84), (some (81, false)), .bin .lss (.t 83) (.c (.int .i64 1))⟩,
               ⟨(some 85), none, .pick (.t 81) (.c (.bool true)) (.t 84)⟩,
               ⟨(some 86), none, .mv (.t 85)⟩,
               ⟨(some 87), (some (86, false)), .idxP 5 1 (.t 8) (.c (.int .i64 1))⟩,
               ⟨(some 88), (some (86, false)), .load 1 false (.t 87)⟩,
               ⟨(some 89), (some (86, false)), .mv (.t 7)⟩,
               ⟨(some 90), (some (86, false)), .idxP 5 1 (.t 8) (.c (.int .i64 0))⟩,
               ⟨(some 91), (some (86, false)), .load 1 false (.t 90)⟩,
               ⟨(some 92), (some (86, false)), .pcall [] 34 [(.t 89), (.t 91)]⟩,
               ⟨(some 93), (some (86, false)), .bin .gtr (.t 88) (.t 92)⟩,
               ⟨(some 94), none, .pick (.t 86) (.c (.bool true)) (.t 93)⟩,
               ⟨(some 95), none, .mv (.t 94)⟩,
               ⟨(some 96), (some (95, false)), .idxP 5 1 (.t 8) (.c (.int .i64 2))⟩,
               ⟨(some 97), (some (95, false)), .load 1 false (.t 96)⟩,
               ⟨(some 98), (some (95, false)), .bin .gtr (.t 97) (.c (.int .i64 23))⟩,
               ⟨(some 99), none, .pick (.t 95) (.c (.bool true)) (.t 98)⟩,
               ⟨(some 100), none, .mv (.t 99)⟩,
               ⟨(some 101), (some (100, false)), .idxP 5 1 (.t 8) (.c (.int .i64 3))⟩,
               ⟨(some 102), (some (100, false)), .load 1 false (.t 101)⟩,
               ⟨(some 103), (some (100, false)), .bin .gtr (.t 102) (.c (.int .i64 59))⟩,
               ⟨(some 104), none, .pick (.t 100) (.c (.bool true)) (.t 103)⟩,
               ⟨(some 105), none, .mv (.t 104)⟩,
               ⟨(some 106), (some (105, false)), .idxP 5 1 (.t 8) (.c (.int .i64 4))⟩,
               ⟨(some 107), (some (105, false)), .load 1 false (.t 106)⟩,
               ⟨(some 108), (some (105, false)), .bin .gtr (.t 107) (.c (.int .i64 59))⟩,
               ⟨(some 109), none, .pick (.t 105) (.c (.bool true)) (.t 108)⟩])
             (.cond (.t 109)
              (.seq
               (.reg [⟨(some 4), none, .mv (.c (.int .u64 0))⟩,
                 ⟨(some 5), none, .mv (.c (.bool false))⟩])
               .ret)
              .skip))
            (.seq
             (.reg [⟨(some 110), none, .mv (.t 7)⟩,
               ⟨(some 111), none, .idxP 5 1 (.t 8) (.c (.int .i64 0))⟩,
               ⟨(some 112), none, .load 1 false (.t 111)⟩,
               ⟨(some 113), none, .idxP 5 1 (.t 8) (.c (.int .i64 1))⟩,
               ⟨(some 114), none, .load 1 false (.t 113)⟩,
               ⟨(some 115), none, .pcall [] 35 [(.t 110), (.t 112), (.t 114)]⟩,
               ⟨(some 116), none, .bin .mul (.t 115) (.c (.int .i64 86400))⟩,
               ⟨(some 117), none, .idxP 5 1 (.t 8) (.c (.int .i64 2))⟩,
               ⟨(some 118), none, .load 1 false (.t 117)⟩,
               ⟨(some 119), none, .bin .mul (.t 118) (.c (.int .i64 3600))⟩,
               ⟨(some 120), none, .bin .add (.t 116) (.t 119)⟩,
               ⟨(some 121), none, .idxP 5 1 (.t 8) (.c (.int .i64 3))⟩,
               ⟨(some 122), none, .load 1 false (.t 121)⟩,
               ⟨(some 123), none, .bin .mul (.t 122) (.c (.int .i64 60))⟩,
               ⟨(some 124), none, .bin .add (.t 120) (.t 123)⟩,
               ⟨(some 125), none, .idxP 5 1 (.t 8) (.c (.int .i64 4))⟩,
               ⟨(some 126), none, .load 1 false (.t 125)⟩,
               ⟨(some 127), none, .bin .add (.t 124) (.t 126)⟩,
               ⟨(some 128), none, .cvt .u64 (.t 127)⟩,
               ⟨(some 4), none, .mv (.t 128)⟩,
               ⟨(some 5), none, .mv (.c (.bool true))⟩])
             .ret)))))))))))
theorem fn28 : FnC P0 G0 [] 28 = some (129, [.t 4, .t 5], c28) := by kernel_rfl
/-- cartouche/cartoucheref12.When -/
noncomputable def c29 : C :=
  (.seq
   (.reg [⟨(some 2), none, .mv (.c (.sl .nil 1 []))⟩])
   (.seq
    (.seq
     (.reg [⟨(some 8), none, .mv (.t 0)⟩,
       ⟨(some 9), none, .call 35 [(.c (.int .i64 10000)), (.c (.int .i64 1)), (.c (.int .i64 1))]⟩,
       ⟨(some 10), none, .cvt .u64 (.t 9)⟩,
       ⟨(some 11), none, .bin .mul (.t 10) (.c (.int .u64 86400))⟩,
       ⟨(some 12), none, .bin .geq (.t 8) (.t 11)⟩])
     (.cond (.t 12)
      (.seq
       (.reg [⟨(some 2), none, .mv (.c (.sl .nil 1 []))⟩])
       .ret)
      .skip))
    (.seq
     (.reg [⟨(some 13), none, .mv (.t 0)⟩,
       ⟨(some 14), none, .bin .quo (.t 13) (.c (.int .u64 86400))⟩,
       ⟨(some 15), none, .cvt .i64 (.t 14)⟩,
       ⟨(some 16), none, .mv (.t 0)⟩,
       ⟨(some 17), none, .bin .rem (.t 16) (.c (.int .u64 86400))⟩,
       ⟨(some 18), none, .cvt .i64 (.t 17)⟩,
       ⟨(some 3), none, .mv (.t 15)⟩,
       ⟨(some 4), none, .mv (.t 18)⟩])
     (.seq
      (.reg [⟨(some 19), none, .mv (.t 3)⟩,
        ⟨(some 20), none, .bin .quo (.t 19) (.c (.int .i64 366))⟩,
        ⟨(some 21), none, .bin .add (.c (.int .i64 1970)) (.t 20)⟩,
        ⟨(some 5), none, .mv (.t 21)⟩])
      (.seq
       (.block 0
        (.loop
         (.seq
          (.seq
           (.reg [⟨(some 22), none, .mv (.t 5)⟩,
             ⟨(some 23), none, .bin .add (.t 22) (.c (.int .i64 1))⟩,
             ⟨(some 24), none, .call 35 [(.t 23), (.c (.int .i64 1)), (.c (.int .i64 1))]⟩,
             ⟨(some 25), none, .mv (.t 3)⟩,
             ⟨(some 26), none, .bin .leq (.t 24) (.t 25)⟩])
           (.cond (.t 26)
            .skip
            (.exit 0)))
          (.block 1
           (.reg [⟨(some 27), none, .mv (.t 5)⟩,
             ⟨(some 28), none, .bin .add (.t 27) (.c (.int .i64 1))⟩,
             ⟨(some 5), none, .mv (.t 28)⟩])))))
       (.seq
        (.reg [⟨(some 6), none, .mv (.c (.int .i64 1))⟩])
        (.seq
         (.block 2
          (.loop
           (.seq
            (.seq
             (.reg [⟨(some 29), none, .mv (.t 6)⟩,
               ⟨(some 30), none, .bin .lss (.t 29) (.c (.int .i64 12))⟩,
               ⟨(some 31), none, .mv (.t 30)⟩,
               ⟨(some 32), (some (31, true)), .mv (.t 5)⟩,
               ⟨(some 33), (some (31, true)), .mv (.t 6)⟩,
               ⟨(some 34), (some (31, true)), .bin .add (.t 33) (.c (.int .i64 1))⟩,
               ⟨(some 35), (some (31, true)), .call 35 [(.t 32), (.t 34), (.c (.int .i64 1))]⟩,
               ⟨(some 36), (some (31, true)), .mv (.t 3)⟩,
               ⟨(some 37), (some (31, true)), .bin .leq (.t 35) (.t 36)⟩,
               ⟨(some 38), none, .pick (.t 31) (.t 37) (.c (.bool false))⟩])
             (.cond (.t 38)
              .skip
              (.exit 2)))
            (.block 3
             (.reg [⟨(some 39), none, .mv (.t 6)⟩,
               ⟨(some 40), none, .bin .add (.t 39) (.c (.int .i64 1))⟩,
               ⟨(some 6), none, .mv (.t 40)⟩])))))
         (.seq
          (.reg [⟨(some 7), none, .mv (.c (.sl .nil 1 []))⟩])
          (.seq
           (.seq
            (.reg [⟨(some 41), none, .mv (.t 5)⟩,
              ⟨(some 42), none, .bin .gtr (.t 41) (.c (.int .i64 2049))⟩])
            (.cond (.t 42)
             (.reg [⟨(some 43), none, .mv (.t 7)⟩,
               ⟨(some 44), none, .mv (.t 5)⟩,
               ⟨(some 45), none, .bin .quo (.t 44) (.c (.int .i64 100))⟩,
               ⟨(some 46), none, .call 36 [(.t 45)]⟩,
               ⟨(some 47), none, .app 1 1 (.t 43) (.t 46)⟩,
               ⟨(some 7), none, .mv (.t 47)⟩])
             .skip))
           (.seq
            (.reg [⟨(some 48), none, .mv (.t 7)⟩,
              ⟨(some 49), none, .mv (.t 5)⟩,
              ⟨(some 50), none, .bin .rem (.t 49) (.c (.int .i64 100))⟩,
              ⟨(some 51), none, .call 36 [(.t 50)]⟩,
              ⟨(some 52), none, .app 1 1 (.t 48) (.t 51)⟩,
              ⟨(some 7), none, .mv (.t 52)⟩])
            (.seq
             (.reg [⟨(some 53), none, .mv (.t 7)⟩,
               ⟨(some 54), none, .mv (.t 6)⟩,
               ⟨(some 55), none, .call 36 [(.t 54)]⟩,
               ⟨(some 56), none, .app 1 1 (.t 53) (.t 55)⟩,
               ⟨(some 7), none, .mv (.t 56)⟩])
             (.seq
              (.reg [⟨(some 57), none, .mv (.t 7)⟩,
                ⟨(some 58), none, .mv (.t 3)⟩,
                ⟨(some 59), none, .mv (.t 5)⟩,
                ⟨(some 60), none, .mv (.t 6)⟩,
                ⟨(some 61), none, .call 35 [(.t 59), (.t 60), (.c (.int .i64 1))]⟩,
                ⟨(some 62), none, .bin .sub (.t 58) (.t 61)⟩,
                ⟨(some 63), none, .bin .add (.t 62) (.c (.int .i64 1))⟩,
                ⟨(some 64), none, .call 36 [(.t 63)]⟩,
                ⟨(some 65), none, .app 1 1 (.t 57) (.t 64)⟩,
                ⟨(some 7), none, .mv (.t 65)⟩])
              (.seq
               (.reg [⟨(some 66), none, .mv (.t 7)⟩,
                 ⟨(some 67), none, .mv (.t 4)⟩,
                 ⟨(some 68), none, .bin .quo (.t 67) (.c (.int .i64 3600))⟩,
                 ⟨(some 69), none, .call 36 [(.t 68)]⟩,
                 ⟨(some 70), none, .app 1 1 (.t 66) (.t 69)⟩,
                 ⟨(some 7), none, .mv (.t 70)⟩])
               (.seq
                (.reg [⟨(some 71), none, .mv (.t 7)⟩,
                  ⟨(some 72), none, .mv (.t 4)⟩,
                  ⟨(some 73), none, .bin .quo (.t 72) (.c (.int .i64 60))⟩,
                  ⟨(some 74), none, .bin .rem (.t 73) (.c (.int .i64 60))⟩,
                  ⟨(some 75), none, .call 36 [(.t 74)]⟩,
                  ⟨(some 76), none, .app 1 1 (.t 71) (.t 75)⟩,
                  ⟨(some 7), none, .mv (.t 76)⟩])
                (.seq
                 (.reg [⟨(some 77), none, .mv (.t 7)⟩,
                   ⟨(some 78), none, .mv (.t 4)⟩,
                   ⟨(some 79), none, .bin .rem (.t 78) (.c (.int .i64 60))⟩,
                   ⟨(some 80), none, .call 36 [(.t 79)]⟩,
                   ⟨(some 81), none, .app 1 1 (.t 77) (.t 80)⟩,
                   ⟨(some 82), none, .bsl true 29082 1 1 [(.int .u8 0)] [(0, 1, (.c (.int .u8 90)))]⟩,
                   ⟨(some 83), none, .app 1 1 (.t 81) (.t 82)⟩,
                   ⟨(some 7), none, .mv (.t 83)⟩])
                 (.seq
                  (.seq
                   (.reg [⟨(some 84), none, .mv (.t 5)⟩,
                     ⟨(some 85), none, .bin .gtr (.t 84) (.c (.int .i64 2049))⟩])
                   (.cond (.t 85)
                    (.seq
                     (.reg [⟨(some 86), none, .mv (.t 7)⟩,
                       ⟨(some 87), none, .call 13 [(.c (.int .u8 24)), (.t 86)]⟩,
                       ⟨(some 2), none, .mv (.t 87)⟩])
                     .ret)
                    .skip))
                  (.seq
                   (.reg [⟨(some 88), none, .mv (.t 7)⟩,
                     ⟨(some 89), none, .call 13 [(.c (.int .u8 23)), (.t 88)]⟩,
                     ⟨(some 2), none, .mv (.t 89)⟩])
                   .ret)))))))))))))))))
theorem fn29 : FnC P0 G0 [] 29 = some (90, [.t 2], c29) := by kernel_rfl
/-- (*cartouche/der.Reader).fail -/
noncomputable def c30 : C :=
  (.seq
   (.reg [⟨(some 2), none, .mv (.t 0)⟩,
     ⟨(some 3), none, .isnil true false (.t 2)⟩])
   (.cond (.t 3)
    (.reg [⟨(some 4), none, .mv (.t 0)⟩,
      ⟨(some 5), none, .mv (.t 0)⟩,
      ⟨(some 6), none, .nck (.t 4)⟩,
      ⟨(some 7), none, .fldA 1 (.t 6)⟩,
      ⟨none, none, .store 1 (.t 7) (.c (.bool true))⟩,
      ⟨(some 8), none, .nck (.t 5)⟩,
      ⟨(some 9), none, .fldA 0 (.t 8)⟩,
      ⟨none, none, .store 1 (.t 9) (.c (.sl .nil 1 []))⟩])
    .skip))
theorem fn30 : FnC P0 G0 [] 30 = some (10, [], c30) := by kernel_rfl
/-- cartouche/der.days -/
noncomputable def c31 : C :=
  (.seq
   (.reg [⟨(some 4), none, .mv (.c (.int .i64 0))⟩])
   (.seq
    (.seq
     (.reg [⟨(some 5), none, .mv (.t 1)⟩])
     (.block 0
      (.seq
       (.reg [⟨(some 7), none, .bin .eql (.t 5) (.c (.int .i64 2))⟩,
         ⟨(some 6), none, .mv (.t 7)⟩])
       (.cond (.t 6)
        (.seq
         (.seq
          (.reg [⟨(some 8), none, .mv (.t 0)⟩,
            ⟨(some 9), none, .bin .rem (.t 8) (.c (.int .i64 4))⟩,
            ⟨(some 10), none, .bin .eql (.t 9) (.c (.int .i64 0))⟩,
            ⟨(some 11), none, .mv (.t 10)⟩,
            ⟨(some 12), (some (11, true)), .mv (.t 0)⟩,
            ⟨(some 13), (some (11, true)), .bin .rem (.t 12) (.c (.int .i64 100))⟩,
            ⟨(some 14), (some (11, true)), .bin .neq (.t 13) (.c (.int .i64 0))⟩,
            ⟨(some 15), (some (11, true)), .mv (.t 14)⟩,
            ⟨(some 16), (some (15, false)), .mv (.t 0)⟩,
            ⟨(some 17), (some (15, false)), .bin .rem (.t 16) (.c (.int .i64 400))⟩,
            ⟨(some 18), (some (15, false)), .bin .eql (.t 17) (.c (.int .i64 0))⟩,
            ⟨(some 19), (some (11, true)), .pick (.t 15) (.c (.bool true)) (.t 18)⟩,
            ⟨(some 20), none, .pick (.t 11) (.t 19) (.c (.bool false))⟩])
          (.cond (.t 20)
           (.seq
            (.reg [⟨(some 4), none, .mv (.c (.int .i64 29))⟩])
            .ret)
           .skip))
         (.seq
          (.reg [⟨(some 4), none, .mv (.c (.int .i64 28))⟩])
          .ret))
        (.seq
         (.seq
          (.reg [⟨(some 22), none, .bin .eql (.t 5) (.c (.int .i64 4))⟩,
            ⟨(some 21), none, .mv (.t 22)⟩])
          (.cond (.t 21)
           .skip
           (.seq
            (.reg [⟨(some 23), none, .bin .eql (.t 5) (.c (.int .i64 6))⟩,
              ⟨(some 21), none, .mv (.t 23)⟩])
            (.cond (.t 21)
             .skip
             (.seq
              (.reg [⟨(some 24), none, .bin .eql (.t 5) (.c (.int .i64 9))⟩,
                ⟨(some 21), none, .mv (.t 24)⟩])
              (.cond (.t 21)
               .skip
               (.reg [⟨(some 25), none, .bin .eql (.t 5) (.c (.int .i64 11))⟩,
                 ⟨(some 21), none, .mv (.t 25)⟩])))))))
         (.cond (.t 21)
          (.seq
           (.reg [⟨(some 4), none, .mv (.c (.int .i64 30))⟩])
           .ret)
          .skip))))))
    (.seq
     (.reg [⟨(some 4), none, .mv (.c (.int .i64 31))⟩])
     .ret)))
theorem fn31 : FnC P0 G0 [] 31 = some (26, [.t 4], c31) := by kernel_rfl
/-- cartouche/der.two -/
noncomputable def c32 : C :=
  (.seq
   (.reg [⟨(some 2), none, .mv (.c (.int .i64 0))⟩])
   (.seq
    (.seq
     (.reg [⟨(some 3), none, .mv (.t 0)⟩,
       ⟨(some 4), none, .len (.t 3)⟩,
       ⟨(some 5), none, .bin .lss (.t 4) (.c (.int .i64 2))⟩,
       ⟨(some 6), none, .mv (.t 5)⟩,
       ⟨(some 7), (some (6, false)), .mv (.t 0)⟩,
       ⟨(some 8), (some (6, false)), .idxA 1 (.t 7) (.c (.int .i64 0))⟩,
       ⟨(some 9), (some (6, false)), .load 1 false (.t 8)⟩,
       ⟨(some 10), (some (6, false)), .bin .lss (.t 9) (.c (.int .u8 48))⟩,
       ⟨(some 11), none, .pick (.t 6) (.c (.bool true)) (.t 10)⟩,
       ⟨(some 12), none, .mv (.t 11)⟩,
       ⟨(some 13), (some (12, false)), .mv (.t 0)⟩,
       ⟨(some 14), (some (12, false)), .idxA 1 (.t 13) (.c (.int .i64 0))⟩,
       ⟨(some 15), (some (12, false)), .load 1 false (.t 14)⟩,
       ⟨(some 16), (some (12, false)), .bin .gtr (.t 15) (.c (.int .u8 57))⟩,
       ⟨(some 17), none, .pick (.t 12) (.c (.bool true)) (.t 16)⟩,
       ⟨(some 18), none, .mv (.t 17)⟩,
       ⟨(some 19), (some (18, false)), .mv (.t 0)⟩,
       ⟨(some 20), (some (18, false)), .idxA 1 (.t 19) (.c (.int .i64 1))⟩,
       ⟨(some 21), (some (18, false)), .load 1 false (.t 20)⟩,
       ⟨(some 22), (some (18, false)), .bin .lss (.t 21) (.c (.int .u8 48))⟩,
       ⟨(some 23), none, .pick (.t 18) (.c (.bool true)) (.t 22)⟩,
       ⟨(some 24), none, .mv (.t 23)⟩,
       ⟨(some 25), (some (24, false)), .mv (.t 0)⟩,
       ⟨(some 26), (some (24, false)), .idxA 1 (.t 25) (.c (.int .i64 1))⟩,
       ⟨(some 27), (some (24, false)), .load 1 false (.t 26)⟩,
       ⟨(some 28), (some (24, false)), .bin .gtr (.t 27) (.c (.int .u8 57))⟩,
       ⟨(some 29), none, .pick (.t 24) (.c (.bool true)) (.t 28)⟩])
     (.cond (.t 29)
      (.seq
       (.reg [⟨(some 2), none, .mv (.c (.int .i64 (-1)))⟩])
       .ret)
      .skip))
    (.seq
     (.reg [⟨(some 30), none, .mv (.t 0)⟩,
       ⟨(some 31), none, .idxA 1 (.t 30) (.c (.int .i64 0))⟩,
       ⟨(some 32), none, .load 1 false (.t 31)⟩,
       ⟨(some 33), none, .bin .sub (.t 32) (.c (.int .u8 48))⟩,
       ⟨(some 34), none, .cvt .i64 (.t 33)⟩,
       ⟨(some 35), none, .bin .mul (.t 34) (.c (.int .i64 10))⟩,
       ⟨(some 36), none, .mv (.t 0)⟩,
       ⟨(some 37), none, .idxA 1 (.t 36) (.c (.int .i64 1))⟩,
       ⟨(some 38), none, .load 1 false (.t 37)⟩,
       ⟨(some 39), none, .bin .sub (.t 38) (.c (.int .u8 48))⟩,
       ⟨(some 40), none, .cvt .i64 (.t 39)⟩,
       ⟨(some 41), none, .bin .add (.t 35) (.t 40)⟩,
       ⟨(some 2), none, .mv (.t 41)⟩])
     .ret)))
theorem fn32 : FnC P0 G0 [] 32 = some (42, [.t 2], c32) := by kernel_rfl
/-- cartouche/cartoucheref12.digits -/
noncomputable def c33 : C :=
  (.seq
   (.reg [⟨(some 2), none, .mv (.c (.int .i64 0))⟩])
   (.seq
    (.reg [⟨(some 3), none, .mv (.c (.int .i64 0))⟩])
    (.seq
     (.seq
      (.reg [⟨(some 4), none, .mv (.c (.int .i64 0))⟩])
      (.block 0
       (.loop
        (.seq
         (.seq
          (.reg [⟨(some 5), none, .mv (.t 4)⟩,
            ⟨(some 6), none, .mv (.t 0)⟩,
            ⟨(some 7), none, .len (.t 6)⟩,
            ⟨(some 8), none, .bin .lss (.t 5) (.t 7)⟩])
          (.cond (.t 8)
           .skip
           (.exit 0)))
         (.seq
          (.block 1
           (.seq
            (.seq
             (.reg [⟨(some 11), none, .mv (.t 0)⟩,
               ⟨(some 12), none, .mv (.t 4)⟩,
               ⟨(some 13), none, .idxA 1 (.t 11) (.t 12)⟩,
               ⟨(some 14), none, .load 1 false (.t 13)⟩,
               ⟨(some 15), none, .bin .lss (.t 14) (.c (.int .u8 48))⟩,
               ⟨(some 16), none, .mv (.t 15)⟩,
               ⟨(some 17), (some (16, false)), .mv (.t 0)⟩,
               ⟨(some 18), (some (16, false)), .mv (.t 4)⟩,
               ⟨(some 19), (some (16, false)), .idxA 1 (.t 17) (.t 18)⟩,
               ⟨(some 20), (some (16, false)), .load 1 false (.t 19)⟩,
               ⟨(some 21), (some (16, false)), .bin .gtr (.t 20) (.c (.int .u8 57))⟩,
               ⟨(some 22), none, .pick (.t 16) (.c (.bool true)) (.t 21)⟩])
             (.cond (.t 22)
              (.seq
               (.reg [⟨(some 2), none, .mv (.c (.int .i64 (-1)))⟩])
               .ret)
              .skip))
            (.reg [⟨(some 23), none, .mv (.t 3)⟩,
              ⟨(some 24), none, .bin .mul (.t 23) (.c (.int .i64 10))⟩,
              ⟨(some 25), none, .mv (.t 0)⟩,
              ⟨(some 26), none, .mv (.t 4)⟩,
              ⟨(some 27), none, .idxA 1 (.t 25) (.t 26)⟩,
              ⟨(some 28), none, .load 1 false (.t 27)⟩,
              ⟨(some 29), none, .bin .sub (.t 28) (.c (.int .u8 48))⟩,
              ⟨(some 30), none, .cvt .i64 (.t 29)⟩,
              ⟨(some 31), none, .bin .add (.t 24) (.t 30)⟩,
              ⟨(some 3), none, .mv (.t 31)⟩])))
          (.reg [⟨(some 9), none, .mv (.t 4)⟩,
            ⟨(some 10), none, .bin .add (.t 9) (.c (.int .i64 1))⟩,
            ⟨(some 4), none, .mv (.t 10)⟩]))))))
     (.seq
      (.reg [⟨(some 32), none, .mv (.t 3)⟩,
        ⟨(some 2), none, .mv (.t 32)⟩])
      .ret))))
theorem fn33 : FnC P0 G0 [] 33 = some (33, [.t 2], c33) := by kernel_rfl
/-- cartouche/cartoucheref12.Len -/
noncomputable def c34 : C :=
  (.seq
   (.reg [⟨(some 4), none, .mv (.c (.int .i64 0))⟩])
   (.seq
    (.reg [⟨(some 6), none, .build [(.int .i64 0), (.int .i64 0), (.int .i64 0), (.int .i64 0), (.int .i64 0), (.int .i64 0), (.int .i64 0), (.int .i64 0), (.int .i64 0), (.int .i64 0), (.int .i64 0), (.int .i64 0), (.int .i64 0)] [(0, 1, (.c (.int .i64 0))), (1, 1, (.c (.int .i64 31))), (2, 1, (.c (.int .i64 28))), (3, 1, (.c (.int .i64 31))), (4, 1, (.c (.int .i64 30))), (5, 1, (.c (.int .i64 31))), (6, 1, (.c (.int .i64 30))), (7, 1, (.c (.int .i64 31))), (8, 1, (.c (.int .i64 31))), (9, 1, (.c (.int .i64 30))), (10, 1, (.c (.int .i64 31))), (11, 1, (.c (.int .i64 30))), (12, 1, (.c (.int .i64 31)))]⟩,
      ⟨(some 5), none, .alloc 34005 [(.int .i64 0), (.int .i64 0), (.int .i64 0), (.int .i64 0), (.int .i64 0), (.int .i64 0), (.int .i64 0), (.int .i64 0), (.int .i64 0), (.int .i64 0), (.int .i64 0), (.int .i64 0), (.int .i64 0)]⟩,
      ⟨none, none, .store 13 (.t 5) (.t 6)⟩])
    (.seq
     (.seq
      (.reg [⟨(some 7), none, .mv (.t 1)⟩,
        ⟨(some 8), none, .bin .eql (.t 7) (.c (.int .i64 2))⟩,
        ⟨(some 9), none, .mv (.t 8)⟩,
        ⟨(some 10), (some (9, true)), .mv (.t 0)⟩,
        ⟨(some 11), (some (9, true)), .bin .rem (.t 10) (.c (.int .i64 4))⟩,
        ⟨(some 12), (some (9, true)), .bin .eql (.t 11) (.c (.int .i64 0))⟩,
        ⟨(some 13), none, .pick (.t 9) (.t 12) (.c (.bool false))⟩,
        ⟨(some 14), none, .mv (.t 13)⟩,
        ⟨(some 15), (some (14, true)), .mv (.t 0)⟩,
        ⟨(some 16), (some (14, true)), .bin .rem (.t 15) (.c (.int .i64 100))⟩,
        ⟨(some 17), (some (14, true)), .bin .neq (.t 16) (.c (.int .i64 0))⟩,
        ⟨(some 18), (some (14, true)), .mv (.t 17)⟩,
        ⟨(some 19), (some (18, false)), .mv (.t 0)⟩,
        ⟨(some 20), (some (18, false)), .bin .rem (.t 19) (.c (.int .i64 400))⟩,
        ⟨(some 21), (some (18, false)), .bin .eql (.t 20) (.c (.int .i64 0))⟩,
        ⟨(some 22), (some (14, true)), .pick (.t 18) (.c (.bool true)) (.t 21)⟩,
        ⟨(some 23), none, .pick (.t 14) (.t 22) (.c (.bool false))⟩])
      (.cond (.t 23)
       (.seq
        (.reg [⟨(some 4), none, .mv (.c (.int .i64 29))⟩])
        .ret)
       .skip))
     (.seq
      (.reg [⟨(some 24), none, .mv (.t 1)⟩,
        ⟨(some 25), none, .idxP 13 1 (.t 5) (.t 24)⟩,
        ⟨(some 26), none, .load 1 false (.t 25)⟩,
        ⟨(some 4), none, .mv (.t 26)⟩])
      .ret))))
theorem fn34 : FnC P0 G0 [] 34 = some (27, [.t 4], c34) := by kernel_rfl
/-- cartouche/cartoucheref12.Day -/
noncomputable def c35 : C :=
  (.seq
   (.reg [⟨(some 6), none, .mv (.c (.int .i64 0))⟩])
   (.seq
    (.reg [⟨(some 10), none, .mv (.t 0)⟩,
      ⟨(some 11), none, .bin .sub (.t 10) (.c (.int .i64 1970))⟩,
      ⟨(some 12), none, .bin .mul (.t 11) (.c (.int .i64 365))⟩,
      ⟨(some 13), none, .mv (.t 2)⟩,
      ⟨(some 14), none, .bin .add (.t 12) (.t 13)⟩,
      ⟨(some 15), none, .bin .sub (.t 14) (.c (.int .i64 1))⟩,
      ⟨(some 7), none, .mv (.t 15)⟩])
    (.seq
     (.seq
      (.reg [⟨(some 8), none, .mv (.c (.int .i64 1972))⟩])
      (.block 0
       (.loop
        (.seq
         (.seq
          (.reg [⟨(some 16), none, .mv (.t 8)⟩,
            ⟨(some 17), none, .mv (.t 0)⟩,
            ⟨(some 18), none, .bin .lss (.t 16) (.t 17)⟩])
          (.cond (.t 18)
           .skip
           (.exit 0)))
         (.seq
          (.block 1
           (.seq
            (.reg [⟨(some 21), none, .mv (.t 8)⟩,
              ⟨(some 22), none, .call 34 [(.t 21), (.c (.int .i64 2))]⟩,
              ⟨(some 23), none, .bin .eql (.t 22) (.c (.int .i64 29))⟩])
            (.cond (.t 23)
             (.reg [⟨(some 24), none, .mv (.t 7)⟩,
               ⟨(some 25), none, .bin .add (.t 24) (.c (.int .i64 1))⟩,
               ⟨(some 7), none, .mv (.t 25)⟩])
             .skip)))
          (.reg [⟨(some 19), none, .mv (.t 8)⟩,
            ⟨(some 20), none, .bin .add (.t 19) (.c (.int .i64 4))⟩,
            ⟨(some 8), none, .mv (.t 20)⟩]))))))
     (.seq
      (.seq
       (.reg [⟨(some 9), none, .mv (.c (.int .i64 1))⟩])
       (.block 2
        (.loop
         (.seq
          (.seq
           (.reg [⟨(some 26), none, .mv (.t 9)⟩,
             ⟨(some 27), none, .mv (.t 1)⟩,
             ⟨(some 28), none, .bin .lss (.t 26) (.t 27)⟩])
           (.cond (.t 28)
            .skip
            (.exit 2)))
          (.seq
           (.block 3
            (.reg [⟨(some 31), none, .mv (.t 7)⟩,
              ⟨(some 32), none, .mv (.t 0)⟩,
              ⟨(some 33), none, .mv (.t 9)⟩,
              ⟨(some 34), none, .call 34 [(.t 32), (.t 33)]⟩,
              ⟨(some 35), none, .bin .add (.t 31) (.t 34)⟩,
              ⟨(some 7), none, .mv (.t 35)⟩]))
           (.reg [⟨(some 29), none, .mv (.t 9)⟩,
             ⟨(some 30), none, .bin .add (.t 29) (.c (.int .i64 1))⟩,
             ⟨(some 9), none, .mv (.t 30)⟩]))))))
      (.seq
       (.reg [⟨(some 36), none, .mv (.t 7)⟩,
         ⟨(some 6), none, .mv (.t 36)⟩])
       .ret)))))
theorem fn35 : FnC P0 G0 [] 35 = some (37, [.t 6], c35) := by kernel_rfl
/-- cartouche/cartoucheref12.two -/
noncomputable def c36 : C :=
  (.seq
   (.reg [⟨(some 2), none, .mv (.c (.sl .nil 1 []))⟩])
   (.seq
    (.reg [⟨(some 3), none, .mv (.t 0)⟩,
      ⟨(some 4), none, .bin .quo (.t 3) (.c (.int .i64 10))⟩,
      ⟨(some 5), none, .bin .rem (.t 4) (.c (.int .i64 10))⟩,
      ⟨(some 6), none, .bin .add (.c (.int .i64 48)) (.t 5)⟩,
      ⟨(some 7), none, .cvt .u8 (.t 6)⟩,
      ⟨(some 8), none, .mv (.t 0)⟩,
      ⟨(some 9), none, .bin .rem (.t 8) (.c (.int .i64 10))⟩,
      ⟨(some 10), none, .bin .add (.c (.int .i64 48)) (.t 9)⟩,
      ⟨(some 11), none, .cvt .u8 (.t 10)⟩,
      ⟨(some 12), none, .bsl true 36012 2 1 [(.int .u8 0)] [(0, 1, (.t 7)), (1, 1, (.t 11))]⟩,
      ⟨(some 2), none, .mv (.t 12)⟩])
    .ret))
theorem fn36 : FnC P0 G0 [] 36 = some (13, [.t 2], c36) := by kernel_rfl
end Go.Proofs.Ytmkgbegneiaaiaa
