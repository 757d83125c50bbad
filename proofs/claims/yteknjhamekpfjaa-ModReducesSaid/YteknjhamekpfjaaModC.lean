/- Functions of the seat as the engine sees them. -/
import Derived.Test.YteknjhamekpfjaaEngS
import Derived.Test.YteknjhamekpfjaaChecked
namespace Go.Proofs.Yteknjhamekpfjaa
open Go.Eng
noncomputable abbrev P0 : Program := Try.prog
noncomputable def G0 : Nat → AV := fun _ => .any
/-- cartouche/cartouchelaw02.ModLaws -/
noncomputable def c3 : C :=
  (.seq
   (.reg [⟨(some 2), none, .box true 3002 4 (.t 0)⟩,
     ⟨(some 3), none, .box true 3003 12 (.t 1)⟩,
     ⟨(some 4), none, .mv (.c (.bool false))⟩])
   (.seq
    (.seq
     (.reg [⟨(some 10), none, .call 15 []⟩,
       ⟨(some 11), none, .un .not (.t 10)⟩])
     (.cond (.t 11)
      (.seq
       (.reg [⟨(some 4), none, .mv (.c (.bool false))⟩])
       .ret)
      .skip))
    (.seq
     (.reg [⟨(some 13), none, .load 4 true (.t 2)⟩,
       ⟨(some 14), none, .call 16 [(.t 13)]⟩,
       ⟨(some 12), none, .mv (.t 14)⟩,
       ⟨(some 15), none, .ext (.t 12) 0⟩,
       ⟨(some 16), none, .ext (.t 12) 1⟩,
       ⟨(some 5), none, .mv (.t 15)⟩,
       ⟨(some 6), none, .mv (.t 16)⟩])
     (.seq
      (.seq
       (.reg [⟨(some 17), none, .mv (.t 6)⟩,
         ⟨(some 18), none, .bin .neq (.t 17) (.c (.int .i64 0))⟩])
       (.cond (.t 18)
        (.seq
         (.reg [⟨(some 19), none, .idxP 4 1 (.t 2) (.c (.int .i64 0))⟩,
           ⟨(some 20), none, .load 1 false (.t 19)⟩,
           ⟨(some 21), none, .bin .rem (.t 20) (.c (.int .u64 2))⟩,
           ⟨(some 22), none, .bin .eql (.t 21) (.c (.int .u64 0))⟩,
           ⟨(some 23), none, .mv (.t 22)⟩,
           ⟨(some 24), (some (23, false)), .load 4 true (.t 2)⟩,
           ⟨(some 25), (some (23, false)), .build [(.int .u64 0), (.int .u64 0), (.int .u64 0), (.int .u64 0)] [(0, 1, (.c (.int .u64 1)))]⟩,
           ⟨(some 26), (some (23, false)), .eqc false 4 [(0, .int), (1, .int), (2, .int), (3, .int)] (.t 24) (.t 25)⟩,
           ⟨(some 27), none, .pick (.t 23) (.c (.bool true)) (.t 26)⟩,
           ⟨(some 4), none, .mv (.t 27)⟩])
         .ret)
        .skip))
      (.seq
       (.reg [⟨(some 28), none, .idxP 3 4 (.t 3) (.c (.int .i64 0))⟩,
         ⟨(some 29), none, .loadX [3007, 3008, 3009] 4 true (.t 28)⟩,
         ⟨(some 30), none, .idxP 3 4 (.t 3) (.c (.int .i64 1))⟩,
         ⟨(some 31), none, .loadX [3007, 3008, 3009] 4 true (.t 30)⟩,
         ⟨(some 32), none, .idxP 3 4 (.t 3) (.c (.int .i64 2))⟩,
         ⟨(some 33), none, .loadX [3007, 3008, 3009] 4 true (.t 32)⟩,
         ⟨(some 7), none, .alloc 3007 [(.int .u64 0), (.int .u64 0), (.int .u64 0), (.int .u64 0)]⟩,
         ⟨(some 8), none, .alloc 3008 [(.int .u64 0), (.int .u64 0), (.int .u64 0), (.int .u64 0)]⟩,
         ⟨(some 9), none, .alloc 3009 [(.int .u64 0), (.int .u64 0), (.int .u64 0), (.int .u64 0)]⟩,
         ⟨none, none, .storeX 3007 4 (.t 7) (.t 29)⟩,
         ⟨none, none, .storeX 3008 4 (.t 8) (.t 31)⟩,
         ⟨none, none, .storeX 3009 4 (.t 9) (.t 33)⟩])
       (.seq
        (.reg [⟨(some 34), none, .mv (.t 5)⟩,
          ⟨(some 35), none, .load 4 true (.t 7)⟩,
          ⟨(some 36), none, .load 4 true (.t 8)⟩,
          ⟨(some 37), none, .pcall [] 17 [(.t 34), (.t 35), (.t 36)]⟩,
          ⟨(some 38), none, .mv (.t 5)⟩,
          ⟨(some 39), none, .load 4 true (.t 8)⟩,
          ⟨(some 40), none, .load 4 true (.t 7)⟩,
          ⟨(some 41), none, .pcall [] 17 [(.t 38), (.t 39), (.t 40)]⟩,
          ⟨(some 42), none, .eqc false 4 [(0, .int), (1, .int), (2, .int), (3, .int)] (.t 37) (.t 41)⟩,
          ⟨(some 43), none, .mv (.t 42)⟩,
          ⟨(some 44), (some (43, true)), .mv (.t 5)⟩,
          ⟨(some 45), (some (43, true)), .load 4 true (.t 7)⟩,
          ⟨(some 46), (some (43, true)), .load 4 true (.t 8)⟩,
          ⟨(some 47), (some (43, true)), .pcall [] 18 [(.t 44), (.t 45), (.t 46)]⟩,
          ⟨(some 48), (some (43, true)), .mv (.t 5)⟩,
          ⟨(some 49), (some (43, true)), .load 4 true (.t 8)⟩,
          ⟨(some 50), (some (43, true)), .load 4 true (.t 7)⟩,
          ⟨(some 51), (some (43, true)), .pcall [] 18 [(.t 48), (.t 49), (.t 50)]⟩,
          ⟨(some 52), (some (43, true)), .eqc false 4 [(0, .int), (1, .int), (2, .int), (3, .int)] (.t 47) (.t 51)⟩,
          ⟨(some 53), none, .pick (.t 43) (.t 52) (.c (.bool false))⟩,
          ⟨(some 54), none, .mv (.t 53)⟩,
          ⟨(some 55), (some (54, true)), .mv (.t 5)⟩,
          ⟨(some 56), (some (54, true)), .mv (.t 5)⟩,
          ⟨(some 57), (some (54, true)), .load 4 true (.t 7)⟩,
          ⟨(some 58), (some (54, true)), .load 4 true (.t 8)⟩,
          ⟨(some 59), (some (54, true)), .pcall [] 17 [(.t 56), (.t 57), (.t 58)]⟩,
          ⟨(some 60), (some (54, true)), .load 4 true (.t 9)⟩,
          ⟨(some 61), (some (54, true)), .pcall [] 17 [(.t 55), (.t 59), (.t 60)]⟩,
          ⟨(some 62), (some (54, true)), .mv (.t 5)⟩,
          ⟨(some 63), (some (54, true)), .load 4 true (.t 7)⟩,
          ⟨(some 64), (some (54, true)), .mv (.t 5)⟩,
          ⟨(some 65), (some (54, true)), .load 4 true (.t 8)⟩,
          ⟨(some 66), (some (54, true)), .load 4 true (.t 9)⟩,
          ⟨(some 67), (some (54, true)), .pcall [] 17 [(.t 64), (.t 65), (.t 66)]⟩,
          ⟨(some 68), (some (54, true)), .pcall [] 17 [(.t 62), (.t 63), (.t 67)]⟩,
          ⟨(some 69), (some (54, true)), .eqc false 4 [(0, .int), (1, .int), (2, .int), (3, .int)] (.t 61) (.t 68)⟩,
          ⟨(some 70), none, .pick (.t 54) (.t 69) (.c (.bool false))⟩,
          ⟨(some 71), none, .mv (.t 70)⟩,
          ⟨(some 72), (some (71, true)), .mv (.t 5)⟩,
          ⟨(some 73), (some (71, true)), .mv (.t 5)⟩,
          ⟨(some 74), (some (71, true)), .load 4 true (.t 7)⟩,
          ⟨(some 75), (some (71, true)), .load 4 true (.t 8)⟩,
          ⟨(some 76), (some (71, true)), .pcall [] 18 [(.t 73), (.t 74), (.t 75)]⟩,
          ⟨(some 77), (some (71, true)), .load 4 true (.t 9)⟩,
          ⟨(some 78), (some (71, true)), .pcall [] 18 [(.t 72), (.t 76), (.t 77)]⟩,
          ⟨(some 79), (some (71, true)), .mv (.t 5)⟩,
          ⟨(some 80), (some (71, true)), .load 4 true (.t 7)⟩,
          ⟨(some 81), (some (71, true)), .mv (.t 5)⟩,
          ⟨(some 82), (some (71, true)), .load 4 true (.t 8)⟩,
          ⟨(some 83), (some (71, true)), .load 4 true (.t 9)⟩,
          ⟨(some 84), (some (71, true)), .pcall [] 18 [(.t 81), (.t 82), (.t 83)]⟩,
          ⟨(some 85), (some (71, true)), .pcall [] 18 [(.t 79), (.t 80), (.t 84)]⟩,
          ⟨(some 86), (some (71, true)), .eqc false 4 [(0, .int), (1, .int), (2, .int), (3, .int)] (.t 78) (.t 85)⟩,
          ⟨(some 87), none, .pick (.t 71) (.t 86) (.c (.bool false))⟩,
          ⟨(some 88), none, .mv (.t 87)⟩,
          ⟨(some 89), (some (88, true)), .mv (.t 5)⟩,
          ⟨(some 90), (some (88, true)), .load 4 true (.t 7)⟩,
          ⟨(some 91), (some (88, true)), .mv (.t 5)⟩,
          ⟨(some 92), (some (88, true)), .load 4 true (.t 8)⟩,
          ⟨(some 93), (some (88, true)), .load 4 true (.t 9)⟩,
          ⟨(some 94), (some (88, true)), .pcall [] 17 [(.t 91), (.t 92), (.t 93)]⟩,
          ⟨(some 95), (some (88, true)), .pcall [] 18 [(.t 89), (.t 90), (.t 94)]⟩,
          ⟨(some 96), (some (88, true)), .mv (.t 5)⟩,
          ⟨(some 97), (some (88, true)), .mv (.t 5)⟩,
          ⟨(some 98), (some (88, true)), .load 4 true (.t 7)⟩,
          ⟨(some 99), (some (88, true)), .load 4 true (.t 8)⟩,
          ⟨(some 100), (some (88, true)), .pcall [] 18 [(.t 97), (.t 98), (.t 99)]⟩,
          ⟨(some 101), (some (88, true)), .mv (.t 5)⟩,
          ⟨(some 102), (some (88, true)), .load 4 true (.t 7)⟩,
          ⟨(some 103), (some (88, true)), .load 4 true (.t 9)⟩,
          ⟨(some 104), (some (88, true)), .pcall [] 18 [(.t 101), (.t 102), (.t 103)]⟩,
          ⟨(some 105), (some (88, true)), .pcall [] 17 [(.t 96), (.t 100), (.t 104)]⟩,
          ⟨(some 106), (some (88, true)), .eqc false 4 [(0, .int), (1, .int), (2, .int), (3, .int)] (.t 95) (.t 105)⟩,
          ⟨(some 107), none, .pick (.t 88) (.t 106) (.c (.bool false))⟩,
          ⟨(some 108), none, .mv (.t 107)⟩,
          ⟨(some 109), (some (108, true)), .mv (.t 5)⟩,
          ⟨(some 110), (some (108, true)), .mv (.t 5)⟩,
          ⟨(some 111), (some (108, true)), .load 4 true (.t 7)⟩,
          ⟨(some 112), (some (108, true)), .load 4 true (.t 8)⟩,
          ⟨(some 113), (some (108, true)), .pcall [] 19 [(.t 110), (.t 111), (.t 112)]⟩,
          ⟨(some 114), (some (108, true)), .load 4 true (.t 8)⟩,
          ⟨(some 115), (some (108, true)), .pcall [] 17 [(.t 109), (.t 113), (.t 114)]⟩,
          ⟨(some 116), (some (108, true)), .mv (.t 5)⟩,
          ⟨(some 117), (some (108, true)), .load 4 true (.t 7)⟩,
          ⟨(some 118), (some (108, true)), .build [(.int .u64 0), (.int .u64 0), (.int .u64 0), (.int .u64 0)] []⟩,
          ⟨(some 119), (some (108, true)), .pcall [] 17 [(.t 116), (.t 117), (.t 118)]⟩,
          ⟨(some 120), (some (108, true)), .eqc false 4 [(0, .int), (1, .int), (2, .int), (3, .int)] (.t 115) (.t 119)⟩,
          ⟨(some 121), none, .pick (.t 108) (.t 120) (.c (.bool false))⟩,
          ⟨(some 4), none, .mv (.t 121)⟩])
        .ret))))))
theorem fn3 : FnC P0 G0 [] 3 = some (122, [.t 4], c3) := by kernel_rfl
/-- cartouche/cartouchelaw02.ModExponents -/
noncomputable def c4 : C :=
  (.seq
   (.reg [⟨(some 3), none, .box true 4003 4 (.t 0)⟩,
     ⟨(some 4), none, .box true 4004 4 (.t 1)⟩,
     ⟨(some 5), none, .box true 4005 2 (.t 2)⟩,
     ⟨(some 6), none, .mv (.c (.bool false))⟩])
   (.seq
    (.seq
     (.reg [⟨(some 10), none, .call 15 []⟩,
       ⟨(some 11), none, .un .not (.t 10)⟩])
     (.cond (.t 11)
      (.seq
       (.reg [⟨(some 6), none, .mv (.c (.bool false))⟩])
       .ret)
      .skip))
    (.seq
     (.reg [⟨(some 13), none, .load 4 true (.t 3)⟩,
       ⟨(some 14), none, .call 16 [(.t 13)]⟩,
       ⟨(some 12), none, .mv (.t 14)⟩,
       ⟨(some 15), none, .ext (.t 12) 0⟩,
       ⟨(some 16), none, .ext (.t 12) 1⟩,
       ⟨(some 7), none, .mv (.t 15)⟩,
       ⟨(some 8), none, .mv (.t 16)⟩])
     (.seq
      (.seq
       (.reg [⟨(some 17), none, .mv (.t 8)⟩,
         ⟨(some 18), none, .bin .neq (.t 17) (.c (.int .i64 0))⟩])
       (.cond (.t 18)
        (.seq
         (.reg [⟨(some 19), none, .idxP 4 1 (.t 3) (.c (.int .i64 0))⟩,
           ⟨(some 20), none, .load 1 false (.t 19)⟩,
           ⟨(some 21), none, .bin .rem (.t 20) (.c (.int .u64 2))⟩,
           ⟨(some 22), none, .bin .eql (.t 21) (.c (.int .u64 0))⟩,
           ⟨(some 23), none, .mv (.t 22)⟩,
           ⟨(some 24), (some (23, false)), .load 4 true (.t 3)⟩,
           ⟨(some 25), (some (23, false)), .build [(.int .u64 0), (.int .u64 0), (.int .u64 0), (.int .u64 0)] [(0, 1, (.c (.int .u64 1)))]⟩,
           ⟨(some 26), (some (23, false)), .eqc false 4 [(0, .int), (1, .int), (2, .int), (3, .int)] (.t 24) (.t 25)⟩,
           ⟨(some 27), none, .pick (.t 23) (.c (.bool true)) (.t 26)⟩,
           ⟨(some 6), none, .mv (.t 27)⟩])
         .ret)
        .skip))
      (.seq
       (.reg [⟨(some 28), none, .idxP 2 1 (.t 5) (.c (.int .i64 0))⟩,
         ⟨(some 29), none, .load 1 false (.t 28)⟩,
         ⟨(some 30), none, .build [(.int .u64 0), (.int .u64 0), (.int .u64 0), (.int .u64 0)] [(0, 1, (.t 29))]⟩,
         ⟨(some 9), none, .alloc 4009 [(.int .u64 0), (.int .u64 0), (.int .u64 0), (.int .u64 0)]⟩,
         ⟨none, none, .store 4 (.t 9) (.t 30)⟩])
       (.seq
        (.reg [⟨(some 31), none, .idxP 4 1 (.t 9) (.c (.int .i64 0))⟩,
          ⟨(some 32), none, .load 1 false (.t 31)⟩,
          ⟨(some 33), none, .idxP 2 1 (.t 5) (.c (.int .i64 1))⟩,
          ⟨(some 34), none, .load 1 false (.t 33)⟩,
          ⟨(some 35), none, .bin .add (.t 32) (.t 34)⟩,
          ⟨(some 36), none, .idxP 4 1 (.t 9) (.c (.int .i64 0))⟩,
          ⟨none, none, .store 1 (.t 36) (.t 35)⟩])
        (.seq
         (.seq
          (.reg [⟨(some 37), none, .idxP 4 1 (.t 9) (.c (.int .i64 0))⟩,
            ⟨(some 38), none, .load 1 false (.t 37)⟩,
            ⟨(some 39), none, .idxP 2 1 (.t 5) (.c (.int .i64 1))⟩,
            ⟨(some 40), none, .load 1 false (.t 39)⟩,
            ⟨(some 41), none, .bin .lss (.t 38) (.t 40)⟩])
          (.cond (.t 41)
           (.reg [⟨(some 42), none, .idxP 4 1 (.t 9) (.c (.int .i64 1))⟩,
             ⟨none, none, .store 1 (.t 42) (.c (.int .u64 1))⟩])
           .skip))
         (.seq
          (.reg [⟨(some 43), none, .mv (.t 7)⟩,
            ⟨(some 44), none, .mv (.t 7)⟩,
            ⟨(some 45), none, .load 4 true (.t 4)⟩,
            ⟨(some 46), none, .idxP 2 1 (.t 5) (.c (.int .i64 0))⟩,
            ⟨(some 47), none, .load 1 false (.t 46)⟩,
            ⟨(some 48), none, .build [(.int .u64 0), (.int .u64 0), (.int .u64 0), (.int .u64 0)] [(0, 1, (.t 47))]⟩,
            ⟨(some 49), none, .pcall [] 20 [(.t 44), (.t 45), (.t 48)]⟩,
            ⟨(some 50), none, .mv (.t 7)⟩,
            ⟨(some 51), none, .load 4 true (.t 4)⟩,
            ⟨(some 52), none, .idxP 2 1 (.t 5) (.c (.int .i64 1))⟩,
            ⟨(some 53), none, .load 1 false (.t 52)⟩,
            ⟨(some 54), none, .build [(.int .u64 0), (.int .u64 0), (.int .u64 0), (.int .u64 0)] [(0, 1, (.t 53))]⟩,
            ⟨(some 55), none, .pcall [] 20 [(.t 50), (.t 51), (.t 54)]⟩,
            ⟨(some 56), none, .pcall [] 18 [(.t 43), (.t 49), (.t 55)]⟩,
            ⟨(some 57), none, .mv (.t 7)⟩,
            ⟨(some 58), none, .load 4 true (.t 4)⟩,
            ⟨(some 59), none, .load 4 true (.t 9)⟩,
            ⟨(some 60), none, .pcall [] 20 [(.t 57), (.t 58), (.t 59)]⟩,
            ⟨(some 61), none, .eqc false 4 [(0, .int), (1, .int), (2, .int), (3, .int)] (.t 56) (.t 60)⟩,
            ⟨(some 62), none, .mv (.t 61)⟩,
            ⟨(some 63), (some (62, true)), .mv (.t 7)⟩,
            ⟨(some 64), (some (62, true)), .load 4 true (.t 4)⟩,
            ⟨(some 65), (some (62, true)), .build [(.int .u64 0), (.int .u64 0), (.int .u64 0), (.int .u64 0)] [(0, 1, (.c (.int .u64 1)))]⟩,
            ⟨(some 66), (some (62, true)), .pcall [] 20 [(.t 63), (.t 64), (.t 65)]⟩,
            ⟨(some 67), (some (62, true)), .mv (.t 7)⟩,
            ⟨(some 68), (some (62, true)), .load 4 true (.t 4)⟩,
            ⟨(some 69), (some (62, true)), .build [(.int .u64 0), (.int .u64 0), (.int .u64 0), (.int .u64 0)] []⟩,
            ⟨(some 70), (some (62, true)), .pcall [] 17 [(.t 67), (.t 68), (.t 69)]⟩,
            ⟨(some 71), (some (62, true)), .eqc false 4 [(0, .int), (1, .int), (2, .int), (3, .int)] (.t 66) (.t 70)⟩,
            ⟨(some 72), none, .pick (.t 62) (.t 71) (.c (.bool false))⟩,
            ⟨(some 73), none, .mv (.t 72)⟩,
            ⟨(some 74), (some (73, true)), .mv (.t 7)⟩,
            ⟨(some 75), (some (73, true)), .load 4 true (.t 4)⟩,
            ⟨(some 76), (some (73, true)), .build [(.int .u64 0), (.int .u64 0), (.int .u64 0), (.int .u64 0)] []⟩,
            ⟨(some 77), (some (73, true)), .pcall [] 20 [(.t 74), (.t 75), (.t 76)]⟩,
            ⟨(some 78), (some (73, true)), .mv (.t 7)⟩,
            ⟨(some 79), (some (73, true)), .build [(.int .u64 0), (.int .u64 0), (.int .u64 0), (.int .u64 0)] [(0, 1, (.c (.int .u64 1)))]⟩,
            ⟨(some 80), (some (73, true)), .build [(.int .u64 0), (.int .u64 0), (.int .u64 0), (.int .u64 0)] []⟩,
            ⟨(some 81), (some (73, true)), .pcall [] 17 [(.t 78), (.t 79), (.t 80)]⟩,
            ⟨(some 82), (some (73, true)), .eqc false 4 [(0, .int), (1, .int), (2, .int), (3, .int)] (.t 77) (.t 81)⟩,
            ⟨(some 83), none, .pick (.t 73) (.t 82) (.c (.bool false))⟩,
            ⟨(some 6), none, .mv (.t 83)⟩])
          .ret))))))))
theorem fn4 : FnC P0 G0 [] 4 = some (84, [.t 6], c4) := by kernel_rfl
/-- cartouche/cartouchelaw02.ModPowers -/
noncomputable def c5 : C :=
  (.seq
   (.reg [⟨(some 3), none, .box true 5003 4 (.t 0)⟩,
     ⟨(some 4), none, .box true 5004 4 (.t 1)⟩,
     ⟨(some 5), none, .box true 5005 4 (.t 2)⟩,
     ⟨(some 6), none, .mv (.c (.bool false))⟩])
   (.seq
    (.seq
     (.reg [⟨(some 9), none, .call 15 []⟩,
       ⟨(some 10), none, .un .not (.t 9)⟩])
     (.cond (.t 10)
      (.seq
       (.reg [⟨(some 6), none, .mv (.c (.bool false))⟩])
       .ret)
      .skip))
    (.seq
     (.reg [⟨(some 12), none, .load 4 true (.t 3)⟩,
       ⟨(some 13), none, .call 16 [(.t 12)]⟩,
       ⟨(some 11), none, .mv (.t 13)⟩,
       ⟨(some 14), none, .ext (.t 11) 0⟩,
       ⟨(some 15), none, .ext (.t 11) 1⟩,
       ⟨(some 7), none, .mv (.t 14)⟩,
       ⟨(some 8), none, .mv (.t 15)⟩])
     (.seq
      (.seq
       (.reg [⟨(some 16), none, .mv (.t 8)⟩,
         ⟨(some 17), none, .bin .neq (.t 16) (.c (.int .i64 0))⟩])
       (.cond (.t 17)
        (.seq
         (.reg [⟨(some 18), none, .idxP 4 1 (.t 3) (.c (.int .i64 0))⟩,
           ⟨(some 19), none, .load 1 false (.t 18)⟩,
           ⟨(some 20), none, .bin .rem (.t 19) (.c (.int .u64 2))⟩,
           ⟨(some 21), none, .bin .eql (.t 20) (.c (.int .u64 0))⟩,
           ⟨(some 22), none, .mv (.t 21)⟩,
           ⟨(some 23), (some (22, false)), .load 4 true (.t 3)⟩,
           ⟨(some 24), (some (22, false)), .build [(.int .u64 0), (.int .u64 0), (.int .u64 0), (.int .u64 0)] [(0, 1, (.c (.int .u64 1)))]⟩,
           ⟨(some 25), (some (22, false)), .eqc false 4 [(0, .int), (1, .int), (2, .int), (3, .int)] (.t 23) (.t 24)⟩,
           ⟨(some 26), none, .pick (.t 22) (.c (.bool true)) (.t 25)⟩,
           ⟨(some 6), none, .mv (.t 26)⟩])
         .ret)
        .skip))
      (.seq
       (.reg [⟨(some 27), none, .mv (.t 7)⟩,
         ⟨(some 28), none, .load 4 true (.t 4)⟩,
         ⟨(some 29), none, .load 4 true (.t 5)⟩,
         ⟨(some 30), none, .pcall [] 20 [(.t 27), (.t 28), (.t 29)]⟩,
         ⟨(some 31), none, .load 4 true (.t 4)⟩,
         ⟨(some 32), none, .load 4 true (.t 5)⟩,
         ⟨(some 33), none, .load 4 true (.t 3)⟩,
         ⟨(some 34), none, .pcall [] 21 [(.t 31), (.t 32), (.t 33)]⟩,
         ⟨(some 35), none, .eqc false 4 [(0, .int), (1, .int), (2, .int), (3, .int)] (.t 30) (.t 34)⟩,
         ⟨(some 36), none, .mv (.t 35)⟩,
         ⟨(some 37), (some (36, true)), .mv (.t 7)⟩,
         ⟨(some 38), (some (36, true)), .load 4 true (.t 4)⟩,
         ⟨(some 39), (some (36, true)), .pcall [] 22 [(.t 37), (.t 38)]⟩,
         ⟨(some 40), (some (36, true)), .load 4 true (.t 4)⟩,
         ⟨(some 41), (some (36, true)), .load 4 true (.t 3)⟩,
         ⟨(some 42), (some (36, true)), .pcall [] 23 [(.t 40), (.t 41)]⟩,
         ⟨(some 43), (some (36, true)), .eqc false 4 [(0, .int), (1, .int), (2, .int), (3, .int)] (.t 39) (.t 42)⟩,
         ⟨(some 44), none, .pick (.t 36) (.t 43) (.c (.bool false))⟩,
         ⟨(some 6), none, .mv (.t 44)⟩])
       .ret)))))
theorem fn5 : FnC P0 G0 [] 5 = some (45, [.t 6], c5) := by kernel_rfl
/-- cartouche/cartouchelaw02.ModPrimes -/
noncomputable def c6 : C :=
  (.seq
   (.reg [⟨(some 3), none, .box true 6003 4 (.t 1)⟩,
     ⟨(some 4), none, .mv (.c (.bool false))⟩])
   (.seq
    (.seq
     (.reg [⟨(some 9), none, .call 15 []⟩,
       ⟨(some 10), none, .un .not (.t 9)⟩])
     (.cond (.t 10)
      (.seq
       (.reg [⟨(some 4), none, .mv (.c (.bool false))⟩])
       .ret)
      .skip))
    (.seq
     (.reg [⟨(some 11), none, .call 24 []⟩,
       ⟨(some 12), none, .mv (.t 0)⟩,
       ⟨(some 13), none, .bin .rem (.t 12) (.c (.int .i64 4))⟩,
       ⟨(some 14), none, .bin .add (.t 13) (.c (.int .i64 4))⟩,
       ⟨(some 15), none, .bin .rem (.t 14) (.c (.int .i64 4))⟩,
       ⟨(some 16), none, .idxG 4 4 true (.t 11) (.t 15)⟩,
       ⟨(some 5), none, .alloc 6005 [(.int .u64 0), (.int .u64 0), (.int .u64 0), (.int .u64 0)]⟩,
       ⟨none, none, .store 4 (.t 5) (.t 16)⟩])
     (.seq
      (.reg [⟨(some 18), none, .load 4 true (.t 5)⟩,
        ⟨(some 19), none, .call 16 [(.t 18)]⟩,
        ⟨(some 17), none, .mv (.t 19)⟩,
        ⟨(some 20), none, .ext (.t 17) 0⟩,
        ⟨(some 21), none, .ext (.t 17) 1⟩,
        ⟨(some 6), none, .mv (.t 20)⟩,
        ⟨(some 7), none, .mv (.t 21)⟩])
      (.seq
       (.seq
        (.reg [⟨(some 22), none, .mv (.t 7)⟩,
          ⟨(some 23), none, .bin .neq (.t 22) (.c (.int .i64 0))⟩])
        (.cond (.t 23)
         (.seq
          (.reg [⟨(some 4), none, .mv (.c (.bool false))⟩])
          .ret)
         .skip))
       (.seq
        (.reg [⟨(some 24), none, .build [(.int .u64 0), (.int .u64 0), (.int .u64 0), (.int .u64 0)] [(0, 1, (.c (.int .u64 1)))]⟩,
          ⟨(some 8), none, .alloc 6008 [(.int .u64 0), (.int .u64 0), (.int .u64 0), (.int .u64 0)]⟩,
          ⟨none, none, .store 4 (.t 8) (.t 24)⟩])
        (.seq
         (.seq
          (.reg [⟨(some 25), none, .load 4 true (.t 3)⟩,
            ⟨(some 26), none, .load 4 true (.t 5)⟩,
            ⟨(some 27), none, .call 25 [(.t 25), (.t 26)]⟩,
            ⟨(some 28), none, .build [(.int .u64 0), (.int .u64 0), (.int .u64 0), (.int .u64 0)] []⟩,
            ⟨(some 29), none, .eqc false 4 [(0, .int), (1, .int), (2, .int), (3, .int)] (.t 27) (.t 28)⟩])
          (.cond (.t 29)
           (.reg [⟨(some 30), none, .build [(.int .u64 0), (.int .u64 0), (.int .u64 0), (.int .u64 0)] []⟩,
             ⟨none, none, .store 4 (.t 8) (.t 30)⟩])
           .skip))
         (.seq
          (.reg [⟨(some 31), none, .mv (.t 6)⟩,
            ⟨(some 32), none, .load 4 true (.t 3)⟩,
            ⟨(some 33), none, .mv (.t 6)⟩,
            ⟨(some 34), none, .load 4 true (.t 3)⟩,
            ⟨(some 35), none, .pcall [] 22 [(.t 33), (.t 34)]⟩,
            ⟨(some 36), none, .pcall [] 18 [(.t 31), (.t 32), (.t 35)]⟩,
            ⟨(some 37), none, .load 4 true (.t 8)⟩,
            ⟨(some 38), none, .eqc false 4 [(0, .int), (1, .int), (2, .int), (3, .int)] (.t 36) (.t 37)⟩,
            ⟨(some 4), none, .mv (.t 38)⟩])
          .ret))))))))
theorem fn6 : FnC P0 G0 [] 6 = some (39, [.t 4], c6) := by kernel_rfl
/-- cartouche/cartouchelaw02.ModNegates -/
noncomputable def c7 : C :=
  (.seq
   (.reg [⟨(some 3), none, .box true 7003 4 (.t 0)⟩,
     ⟨(some 4), none, .box true 7004 4 (.t 1)⟩,
     ⟨(some 5), none, .box true 7005 4 (.t 2)⟩,
     ⟨(some 6), none, .mv (.c (.bool false))⟩])
   (.seq
    (.seq
     (.reg [⟨(some 11), none, .call 15 []⟩,
       ⟨(some 12), none, .un .not (.t 11)⟩])
     (.cond (.t 12)
      (.seq
       (.reg [⟨(some 6), none, .mv (.c (.bool false))⟩])
       .ret)
      .skip))
    (.seq
     (.reg [⟨(some 14), none, .load 4 true (.t 3)⟩,
       ⟨(some 15), none, .call 16 [(.t 14)]⟩,
       ⟨(some 13), none, .mv (.t 15)⟩,
       ⟨(some 16), none, .ext (.t 13) 0⟩,
       ⟨(some 17), none, .ext (.t 13) 1⟩,
       ⟨(some 7), none, .mv (.t 16)⟩,
       ⟨(some 8), none, .mv (.t 17)⟩])
     (.seq
      (.seq
       (.reg [⟨(some 18), none, .mv (.t 8)⟩,
         ⟨(some 19), none, .bin .neq (.t 18) (.c (.int .i64 0))⟩])
       (.cond (.t 19)
        (.seq
         (.reg [⟨(some 20), none, .idxP 4 1 (.t 3) (.c (.int .i64 0))⟩,
           ⟨(some 21), none, .load 1 false (.t 20)⟩,
           ⟨(some 22), none, .bin .rem (.t 21) (.c (.int .u64 2))⟩,
           ⟨(some 23), none, .bin .eql (.t 22) (.c (.int .u64 0))⟩,
           ⟨(some 24), none, .mv (.t 23)⟩,
           ⟨(some 25), (some (24, false)), .load 4 true (.t 3)⟩,
           ⟨(some 26), (some (24, false)), .build [(.int .u64 0), (.int .u64 0), (.int .u64 0), (.int .u64 0)] [(0, 1, (.c (.int .u64 1)))]⟩,
           ⟨(some 27), (some (24, false)), .eqc false 4 [(0, .int), (1, .int), (2, .int), (3, .int)] (.t 25) (.t 26)⟩,
           ⟨(some 28), none, .pick (.t 24) (.c (.bool true)) (.t 27)⟩,
           ⟨(some 6), none, .mv (.t 28)⟩])
         .ret)
        .skip))
      (.seq
       (.reg [⟨(some 29), none, .mv (.t 7)⟩,
         ⟨(some 30), none, .build [(.int .u64 0), (.int .u64 0), (.int .u64 0), (.int .u64 0)] []⟩,
         ⟨(some 31), none, .load 4 true (.t 4)⟩,
         ⟨(some 32), none, .call 19 [(.t 29), (.t 30), (.t 31)]⟩,
         ⟨(some 9), none, .alloc 7009 [(.int .u64 0), (.int .u64 0), (.int .u64 0), (.int .u64 0)]⟩,
         ⟨none, none, .store 4 (.t 9) (.t 32)⟩])
       (.seq
        (.reg [⟨(some 33), none, .load 4 true (.t 4)⟩,
          ⟨(some 34), none, .load 4 true (.t 3)⟩,
          ⟨(some 35), none, .call 25 [(.t 33), (.t 34)]⟩,
          ⟨(some 10), none, .alloc 7010 [(.int .u64 0), (.int .u64 0), (.int .u64 0), (.int .u64 0)]⟩,
          ⟨none, none, .store 4 (.t 10) (.t 35)⟩])
        (.seq
         (.reg [⟨(some 36), none, .mv (.t 7)⟩,
           ⟨(some 37), none, .load 4 true (.t 9)⟩,
           ⟨(some 38), none, .load 4 true (.t 4)⟩,
           ⟨(some 39), none, .pcall [] 17 [(.t 36), (.t 37), (.t 38)]⟩,
           ⟨(some 40), none, .build [(.int .u64 0), (.int .u64 0), (.int .u64 0), (.int .u64 0)] []⟩,
           ⟨(some 41), none, .eqc false 4 [(0, .int), (1, .int), (2, .int), (3, .int)] (.t 39) (.t 40)⟩,
           ⟨(some 42), none, .mv (.t 41)⟩,
           ⟨(some 43), (some (42, true)), .mv (.t 7)⟩,
           ⟨(some 44), (some (42, true)), .load 4 true (.t 9)⟩,
           ⟨(some 45), (some (42, true)), .load 4 true (.t 5)⟩,
           ⟨(some 46), (some (42, true)), .pcall [] 18 [(.t 43), (.t 44), (.t 45)]⟩,
           ⟨(some 47), (some (42, true)), .mv (.t 7)⟩,
           ⟨(some 48), (some (42, true)), .build [(.int .u64 0), (.int .u64 0), (.int .u64 0), (.int .u64 0)] []⟩,
           ⟨(some 49), (some (42, true)), .mv (.t 7)⟩,
           ⟨(some 50), (some (42, true)), .load 4 true (.t 4)⟩,
           ⟨(some 51), (some (42, true)), .load 4 true (.t 5)⟩,
           ⟨(some 52), (some (42, true)), .pcall [] 18 [(.t 49), (.t 50), (.t 51)]⟩,
           ⟨(some 53), (some (42, true)), .pcall [] 19 [(.t 47), (.t 48), (.t 52)]⟩,
           ⟨(some 54), (some (42, true)), .eqc false 4 [(0, .int), (1, .int), (2, .int), (3, .int)] (.t 46) (.t 53)⟩,
           ⟨(some 55), none, .pick (.t 42) (.t 54) (.c (.bool false))⟩,
           ⟨(some 56), none, .mv (.t 55)⟩,
           ⟨(some 57), (some (56, true)), .mv (.t 7)⟩,
           ⟨(some 58), (some (56, true)), .load 4 true (.t 10)⟩,
           ⟨(some 59), (some (56, true)), .load 4 true (.t 5)⟩,
           ⟨(some 60), (some (56, true)), .pcall [] 17 [(.t 57), (.t 58), (.t 59)]⟩,
           ⟨(some 61), (some (56, true)), .mv (.t 7)⟩,
           ⟨(some 62), (some (56, true)), .load 4 true (.t 4)⟩,
           ⟨(some 63), (some (56, true)), .load 4 true (.t 5)⟩,
           ⟨(some 64), (some (56, true)), .pcall [] 17 [(.t 61), (.t 62), (.t 63)]⟩,
           ⟨(some 65), (some (56, true)), .eqc false 4 [(0, .int), (1, .int), (2, .int), (3, .int)] (.t 60) (.t 64)⟩,
           ⟨(some 66), none, .pick (.t 56) (.t 65) (.c (.bool false))⟩,
           ⟨(some 67), none, .mv (.t 66)⟩,
           ⟨(some 68), (some (67, true)), .mv (.t 7)⟩,
           ⟨(some 69), (some (67, true)), .load 4 true (.t 10)⟩,
           ⟨(some 70), (some (67, true)), .load 4 true (.t 5)⟩,
           ⟨(some 71), (some (67, true)), .pcall [] 18 [(.t 68), (.t 69), (.t 70)]⟩,
           ⟨(some 72), (some (67, true)), .mv (.t 7)⟩,
           ⟨(some 73), (some (67, true)), .load 4 true (.t 4)⟩,
           ⟨(some 74), (some (67, true)), .load 4 true (.t 5)⟩,
           ⟨(some 75), (some (67, true)), .pcall [] 18 [(.t 72), (.t 73), (.t 74)]⟩,
           ⟨(some 76), (some (67, true)), .eqc false 4 [(0, .int), (1, .int), (2, .int), (3, .int)] (.t 71) (.t 75)⟩,
           ⟨(some 77), none, .pick (.t 67) (.t 76) (.c (.bool false))⟩,
           ⟨(some 78), none, .mv (.t 77)⟩,
           ⟨(some 79), (some (78, true)), .mv (.t 7)⟩,
           ⟨(some 80), (some (78, true)), .load 4 true (.t 5)⟩,
           ⟨(some 81), (some (78, true)), .load 4 true (.t 10)⟩,
           ⟨(some 82), (some (78, true)), .pcall [] 19 [(.t 79), (.t 80), (.t 81)]⟩,
           ⟨(some 83), (some (78, true)), .mv (.t 7)⟩,
           ⟨(some 84), (some (78, true)), .load 4 true (.t 5)⟩,
           ⟨(some 85), (some (78, true)), .load 4 true (.t 4)⟩,
           ⟨(some 86), (some (78, true)), .pcall [] 19 [(.t 83), (.t 84), (.t 85)]⟩,
           ⟨(some 87), (some (78, true)), .eqc false 4 [(0, .int), (1, .int), (2, .int), (3, .int)] (.t 82) (.t 86)⟩,
           ⟨(some 88), none, .pick (.t 78) (.t 87) (.c (.bool false))⟩,
           ⟨(some 6), none, .mv (.t 88)⟩])
         .ret)))))))
theorem fn7 : FnC P0 G0 [] 7 = some (89, [.t 6], c7) := by kernel_rfl
/-- cartouche/cartouchelaw02.ModSums -/
noncomputable def c8 : C :=
  (.seq
   (.reg [⟨(some 3), none, .box true 8003 4 (.t 0)⟩,
     ⟨(some 4), none, .box true 8004 4 (.t 1)⟩,
     ⟨(some 5), none, .box true 8005 4 (.t 2)⟩,
     ⟨(some 6), none, .mv (.c (.bool false))⟩])
   (.seq
    (.seq
     (.reg [⟨(some 10), none, .call 15 []⟩,
       ⟨(some 11), none, .un .not (.t 10)⟩])
     (.cond (.t 11)
      (.seq
       (.reg [⟨(some 6), none, .mv (.c (.bool false))⟩])
       .ret)
      .skip))
    (.seq
     (.reg [⟨(some 13), none, .load 4 true (.t 3)⟩,
       ⟨(some 14), none, .call 16 [(.t 13)]⟩,
       ⟨(some 12), none, .mv (.t 14)⟩,
       ⟨(some 15), none, .ext (.t 12) 0⟩,
       ⟨(some 16), none, .ext (.t 12) 1⟩,
       ⟨(some 7), none, .mv (.t 15)⟩,
       ⟨(some 8), none, .mv (.t 16)⟩])
     (.seq
      (.seq
       (.reg [⟨(some 17), none, .idxP 4 1 (.t 3) (.c (.int .i64 0))⟩,
         ⟨(some 18), none, .load 1 false (.t 17)⟩,
         ⟨(some 19), none, .bin .rem (.t 18) (.c (.int .u64 2))⟩,
         ⟨(some 20), none, .bin .eql (.t 19) (.c (.int .u64 0))⟩,
         ⟨(some 21), none, .mv (.t 20)⟩,
         ⟨(some 22), (some (21, false)), .load 4 true (.t 3)⟩,
         ⟨(some 23), (some (21, false)), .build [(.int .u64 0), (.int .u64 0), (.int .u64 0), (.int .u64 0)] [(0, 1, (.c (.int .u64 1)))]⟩,
         ⟨(some 24), (some (21, false)), .eqc false 4 [(0, .int), (1, .int), (2, .int), (3, .int)] (.t 22) (.t 23)⟩,
         ⟨(some 25), none, .pick (.t 21) (.c (.bool true)) (.t 24)⟩,
         ⟨(some 9), none, .mv (.t 25)⟩])
       (.seq
        (.reg [⟨(some 26), none, .mv (.t 9)⟩,
          ⟨(some 27), none, .mv (.t 26)⟩,
          ⟨(some 28), (some (27, false)), .mv (.t 8)⟩,
          ⟨(some 29), (some (27, false)), .bin .neq (.t 28) (.c (.int .i64 0))⟩,
          ⟨(some 30), none, .pick (.t 27) (.c (.bool true)) (.t 29)⟩])
        (.cond (.t 30)
         (.seq
          (.reg [⟨(some 31), none, .mv (.t 9)⟩,
            ⟨(some 32), none, .mv (.t 31)⟩,
            ⟨(some 33), (some (32, true)), .mv (.t 8)⟩,
            ⟨(some 34), (some (32, true)), .bin .eql (.t 33) (.c (.int .i64 1))⟩,
            ⟨(some 35), none, .pick (.t 32) (.t 34) (.c (.bool false))⟩,
            ⟨(some 36), none, .mv (.t 35)⟩,
            ⟨(some 37), (some (36, true)), .mv (.t 7)⟩,
            ⟨(some 38), (some (36, true)), .isnil false false (.t 37)⟩,
            ⟨(some 39), none, .pick (.t 36) (.t 38) (.c (.bool false))⟩,
            ⟨(some 6), none, .mv (.t 39)⟩])
          .ret)
         .skip)))
      (.seq
       (.reg [⟨(some 40), none, .mv (.t 7)⟩,
         ⟨(some 41), none, .pcall [] 26 [(.t 40)]⟩,
         ⟨(some 42), none, .load 4 true (.t 3)⟩,
         ⟨(some 43), none, .eqc false 4 [(0, .int), (1, .int), (2, .int), (3, .int)] (.t 41) (.t 42)⟩,
         ⟨(some 44), none, .mv (.t 43)⟩,
         ⟨(some 45), (some (44, true)), .mv (.t 7)⟩,
         ⟨(some 46), (some (44, true)), .load 4 true (.t 4)⟩,
         ⟨(some 47), (some (44, true)), .load 4 true (.t 5)⟩,
         ⟨(some 48), (some (44, true)), .pcall [] 17 [(.t 45), (.t 46), (.t 47)]⟩,
         ⟨(some 49), (some (44, true)), .load 4 true (.t 4)⟩,
         ⟨(some 50), (some (44, true)), .load 4 true (.t 5)⟩,
         ⟨(some 51), (some (44, true)), .load 4 true (.t 3)⟩,
         ⟨(some 52), (some (44, true)), .pcall [] 27 [(.t 49), (.t 50), (.t 51)]⟩,
         ⟨(some 53), (some (44, true)), .eqc false 4 [(0, .int), (1, .int), (2, .int), (3, .int)] (.t 48) (.t 52)⟩,
         ⟨(some 54), none, .pick (.t 44) (.t 53) (.c (.bool false))⟩,
         ⟨(some 55), none, .mv (.t 54)⟩,
         ⟨(some 56), (some (55, true)), .mv (.t 7)⟩,
         ⟨(some 57), (some (55, true)), .load 4 true (.t 4)⟩,
         ⟨(some 58), (some (55, true)), .load 4 true (.t 5)⟩,
         ⟨(some 59), (some (55, true)), .pcall [] 19 [(.t 56), (.t 57), (.t 58)]⟩,
         ⟨(some 60), (some (55, true)), .load 4 true (.t 4)⟩,
         ⟨(some 61), (some (55, true)), .load 4 true (.t 5)⟩,
         ⟨(some 62), (some (55, true)), .load 4 true (.t 3)⟩,
         ⟨(some 63), (some (55, true)), .pcall [] 28 [(.t 60), (.t 61), (.t 62)]⟩,
         ⟨(some 64), (some (55, true)), .eqc false 4 [(0, .int), (1, .int), (2, .int), (3, .int)] (.t 59) (.t 63)⟩,
         ⟨(some 65), none, .pick (.t 55) (.t 64) (.c (.bool false))⟩,
         ⟨(some 66), none, .mv (.t 65)⟩,
         ⟨(some 67), (some (66, true)), .mv (.t 7)⟩,
         ⟨(some 68), (some (66, true)), .load 4 true (.t 4)⟩,
         ⟨(some 69), (some (66, true)), .load 4 true (.t 5)⟩,
         ⟨(some 70), (some (66, true)), .pcall [] 18 [(.t 67), (.t 68), (.t 69)]⟩,
         ⟨(some 71), (some (66, true)), .load 4 true (.t 4)⟩,
         ⟨(some 72), (some (66, true)), .load 4 true (.t 5)⟩,
         ⟨(some 73), (some (66, true)), .load 4 true (.t 3)⟩,
         ⟨(some 74), (some (66, true)), .pcall [] 29 [(.t 71), (.t 72), (.t 73)]⟩,
         ⟨(some 75), (some (66, true)), .eqc false 4 [(0, .int), (1, .int), (2, .int), (3, .int)] (.t 70) (.t 74)⟩,
         ⟨(some 76), none, .pick (.t 66) (.t 75) (.c (.bool false))⟩,
         ⟨(some 6), none, .mv (.t 76)⟩])
       .ret)))))
theorem fn8 : FnC P0 G0 [] 8 = some (77, [.t 6], c8) := by kernel_rfl
/-- cartouche/cartouchelaw02.ModReduces -/
noncomputable def c9 : C :=
  (.seq
   (.reg [⟨(some 2), none, .box true 9002 4 (.t 0)⟩,
     ⟨(some 4), none, .mv (.c (.bool false))⟩])
   (.seq
    (.seq
     (.reg [⟨(some 8), none, .call 15 []⟩,
       ⟨(some 9), none, .un .not (.t 8)⟩])
     (.cond (.t 9)
      (.seq
       (.reg [⟨(some 4), none, .mv (.c (.bool false))⟩])
       .ret)
      .skip))
    (.seq
     (.seq
      (.reg [⟨(some 10), none, .mv (.t 1)⟩,
        ⟨(some 11), none, .len (.t 10)⟩,
        ⟨(some 12), none, .bin .gtr (.t 11) (.c (.int .i64 300))⟩])
      (.cond (.t 12)
       (.seq
        (.reg [⟨(some 4), none, .mv (.c (.bool true))⟩])
        .ret)
       .skip))
     (.seq
      (.reg [⟨(some 14), none, .load 4 true (.t 2)⟩,
        ⟨(some 15), none, .call 16 [(.t 14)]⟩,
        ⟨(some 13), none, .mv (.t 15)⟩,
        ⟨(some 16), none, .ext (.t 13) 0⟩,
        ⟨(some 17), none, .ext (.t 13) 1⟩,
        ⟨(some 5), none, .mv (.t 16)⟩,
        ⟨(some 6), none, .mv (.t 17)⟩])
      (.seq
       (.seq
        (.reg [⟨(some 18), none, .mv (.t 6)⟩,
          ⟨(some 19), none, .bin .neq (.t 18) (.c (.int .i64 0))⟩])
        (.cond (.t 19)
         (.seq
          (.reg [⟨(some 20), none, .idxP 4 1 (.t 2) (.c (.int .i64 0))⟩,
            ⟨(some 21), none, .load 1 false (.t 20)⟩,
            ⟨(some 22), none, .bin .rem (.t 21) (.c (.int .u64 2))⟩,
            ⟨(some 23), none, .bin .eql (.t 22) (.c (.int .u64 0))⟩,
            ⟨(some 24), none, .mv (.t 23)⟩,
            ⟨(some 25), (some (24, false)), .load 4 true (.t 2)⟩,
            ⟨(some 26), (some (24, false)), .build [(.int .u64 0), (.int .u64 0), (.int .u64 0), (.int .u64 0)] [(0, 1, (.c (.int .u64 1)))]⟩,
            ⟨(some 27), (some (24, false)), .eqc false 4 [(0, .int), (1, .int), (2, .int), (3, .int)] (.t 25) (.t 26)⟩,
            ⟨(some 28), none, .pick (.t 24) (.c (.bool true)) (.t 27)⟩,
            ⟨(some 4), none, .mv (.t 28)⟩])
          .ret)
         .skip))
       (.seq
        (.reg [⟨(some 7), none, .mv (.c (.v (.pointer none)))⟩])
        (.seq
         (.reg [⟨(some 29), none, .mv (.t 5)⟩,
           ⟨(some 30), none, .mv (.t 1)⟩,
           ⟨(some 31), none, .pcall [] 30 [(.t 29), (.t 30)]⟩,
           ⟨(some 32), none, .mv (.t 1)⟩,
           ⟨(some 33), none, .load 4 true (.t 2)⟩,
           ⟨(some 34), none, .pcall [] 31 [(.t 32), (.t 33)]⟩,
           ⟨(some 35), none, .eqc false 4 [(0, .int), (1, .int), (2, .int), (3, .int)] (.t 31) (.t 34)⟩,
           ⟨(some 36), none, .mv (.t 35)⟩,
           ⟨(some 37), (some (36, true)), .mv (.t 1)⟩,
           ⟨(some 38), (some (36, true)), .len (.t 37)⟩,
           ⟨(some 39), (some (36, true)), .bin .neq (.t 38) (.c (.int .i64 32))⟩,
           ⟨(some 40), (some (36, true)), .mv (.t 39)⟩,
           ⟨(some 41), (some (40, false)), .mv (.t 5)⟩,
           ⟨(some 42), (some (40, false)), .mv (.t 1)⟩,
           ⟨(some 43), (some (40, false)), .pcall [] 30 [(.t 41), (.t 42)]⟩,
           ⟨(some 44), (some (40, false)), .mv (.t 5)⟩,
           ⟨(some 45), (some (40, false)), .mv (.t 1)⟩,
           ⟨(some 46), (some (40, false)), .pcall [] 32 [(.t 45)]⟩,
           ⟨(some 47), (some (40, false)), .build [(.int .u64 0), (.int .u64 0), (.int .u64 0), (.int .u64 0)] []⟩,
           ⟨(some 48), (some (40, false)), .pcall [] 17 [(.t 44), (.t 46), (.t 47)]⟩,
           ⟨(some 49), (some (40, false)), .eqc false 4 [(0, .int), (1, .int), (2, .int), (3, .int)] (.t 43) (.t 48)⟩,
           ⟨(some 50), (some (36, true)), .pick (.t 40) (.c (.bool true)) (.t 49)⟩,
           ⟨(some 51), none, .pick (.t 36) (.t 50) (.c (.bool false))⟩,
           ⟨(some 52), none, .mv (.t 51)⟩,
           ⟨(some 53), (some (52, true)), .mv (.t 7)⟩,
           ⟨(some 54), (some (52, true)), .mv (.t 1)⟩,
           ⟨(some 55), (some (52, true)), .pcall [] 30 [(.t 53), (.t 54)]⟩,
           ⟨(some 56), (some (52, true)), .build [(.int .u64 0), (.int .u64 0), (.int .u64 0), (.int .u64 0)] []⟩,
           ⟨(some 57), (some (52, true)), .eqc false 4 [(0, .int), (1, .int), (2, .int), (3, .int)] (.t 55) (.t 56)⟩,
           ⟨(some 58), none, .pick (.t 52) (.t 57) (.c (.bool false))⟩,
           ⟨(some 59), none, .mv (.t 58)⟩,
           ⟨(some 60), (some (59, true)), .mv (.t 7)⟩,
           ⟨(some 61), (some (59, true)), .load 4 true (.t 2)⟩,
           ⟨(some 62), (some (59, true)), .load 4 true (.t 2)⟩,
           ⟨(some 63), (some (59, true)), .pcall [] 18 [(.t 60), (.t 61), (.t 62)]⟩,
           ⟨(some 64), (some (59, true)), .build [(.int .u64 0), (.int .u64 0), (.int .u64 0), (.int .u64 0)] []⟩,
           ⟨(some 65), (some (59, true)), .eqc false 4 [(0, .int), (1, .int), (2, .int), (3, .int)] (.t 63) (.t 64)⟩,
           ⟨(some 66), none, .pick (.t 59) (.t 65) (.c (.bool false))⟩,
           ⟨(some 67), none, .mv (.t 66)⟩,
           ⟨(some 68), (some (67, true)), .mv (.t 7)⟩,
           ⟨(some 69), (some (67, true)), .pcall [] 26 [(.t 68)]⟩,
           ⟨(some 70), (some (67, true)), .build [(.int .u64 0), (.int .u64 0), (.int .u64 0), (.int .u64 0)] []⟩,
           ⟨(some 71), (some (67, true)), .eqc false 4 [(0, .int), (1, .int), (2, .int), (3, .int)] (.t 69) (.t 70)⟩,
           ⟨(some 72), none, .pick (.t 67) (.t 71) (.c (.bool false))⟩,
           ⟨(some 4), none, .mv (.t 72)⟩])
         .ret)))))))
theorem fn9 : FnC P0 G0 [] 9 = some (73, [.t 4], c9) := by kernel_rfl
/-- cartouche/cartouchelaw02.sound -/
noncomputable def c15 : C :=
  (.seq
   (.reg [⟨(some 0), none, .mv (.c (.bool false))⟩])
   (.seq
    (.reg [⟨(some 4), none, .build [(.int .u64 0), (.int .u64 0), (.int .u64 0), (.int .u64 0)] [(0, 1, (.c (.int .u64 7)))]⟩,
      ⟨(some 5), none, .call 16 [(.t 4)]⟩,
      ⟨(some 3), none, .mv (.t 5)⟩,
      ⟨(some 6), none, .ext (.t 3) 0⟩,
      ⟨(some 7), none, .ext (.t 3) 1⟩,
      ⟨(some 1), none, .mv (.t 6)⟩,
      ⟨(some 2), none, .mv (.t 7)⟩])
    (.seq
     (.reg [⟨(some 8), none, .mv (.t 2)⟩,
       ⟨(some 9), none, .bin .eql (.t 8) (.c (.int .i64 0))⟩,
       ⟨(some 10), none, .mv (.t 9)⟩,
       ⟨(some 11), (some (10, true)), .mv (.t 1)⟩,
       ⟨(some 12), (some (10, true)), .build [(.int .u64 0), (.int .u64 0), (.int .u64 0), (.int .u64 0)] [(0, 1, (.c (.int .u64 2)))]⟩,
       ⟨(some 13), (some (10, true)), .build [(.int .u64 0), (.int .u64 0), (.int .u64 0), (.int .u64 0)] [(0, 1, (.c (.int .u64 5)))]⟩,
       ⟨(some 14), (some (10, true)), .call 19 [(.t 11), (.t 12), (.t 13)]⟩,
       ⟨(some 15), (some (10, true)), .build [(.int .u64 0), (.int .u64 0), (.int .u64 0), (.int .u64 0)] [(0, 1, (.c (.int .u64 4)))]⟩,
       ⟨(some 16), (some (10, true)), .eqc false 4 [(0, .int), (1, .int), (2, .int), (3, .int)] (.t 14) (.t 15)⟩,
       ⟨(some 17), none, .pick (.t 10) (.t 16) (.c (.bool false))⟩,
       ⟨(some 18), none, .mv (.t 17)⟩,
       ⟨(some 19), (some (18, true)), .mv (.t 1)⟩,
       ⟨(some 20), (some (18, true)), .build [(.int .u64 0), (.int .u64 0), (.int .u64 0), (.int .u64 0)] [(0, 1, (.c (.int .u64 3)))]⟩,
       ⟨(some 21), (some (18, true)), .build [(.int .u64 0), (.int .u64 0), (.int .u64 0), (.int .u64 0)] [(0, 1, (.c (.int .u64 6)))]⟩,
       ⟨(some 22), (some (18, true)), .call 20 [(.t 19), (.t 20), (.t 21)]⟩,
       ⟨(some 23), (some (18, true)), .build [(.int .u64 0), (.int .u64 0), (.int .u64 0), (.int .u64 0)] [(0, 1, (.c (.int .u64 1)))]⟩,
       ⟨(some 24), (some (18, true)), .eqc false 4 [(0, .int), (1, .int), (2, .int), (3, .int)] (.t 22) (.t 23)⟩,
       ⟨(some 25), none, .pick (.t 18) (.t 24) (.c (.bool false))⟩,
       ⟨(some 26), none, .mv (.t 25)⟩,
       ⟨(some 27), (some (26, true)), .mv (.t 1)⟩,
       ⟨(some 28), (some (26, true)), .build [(.int .u64 0), (.int .u64 0), (.int .u64 0), (.int .u64 0)] [(0, 1, (.c (.int .u64 3)))]⟩,
       ⟨(some 29), (some (26, true)), .call 22 [(.t 27), (.t 28)]⟩,
       ⟨(some 30), (some (26, true)), .build [(.int .u64 0), (.int .u64 0), (.int .u64 0), (.int .u64 0)] [(0, 1, (.c (.int .u64 5)))]⟩,
       ⟨(some 31), (some (26, true)), .eqc false 4 [(0, .int), (1, .int), (2, .int), (3, .int)] (.t 29) (.t 30)⟩,
       ⟨(some 32), none, .pick (.t 26) (.t 31) (.c (.bool false))⟩,
       ⟨(some 33), none, .mv (.t 32)⟩,
       ⟨(some 34), (some (33, true)), .mv (.t 1)⟩,
       ⟨(some 35), (some (33, true)), .build [(.int .u64 0), (.int .u64 0), (.int .u64 0), (.int .u64 0)] [(0, 1, (.c (.int .u64 6)))]⟩,
       ⟨(some 36), (some (33, true)), .build [(.int .u64 0), (.int .u64 0), (.int .u64 0), (.int .u64 0)] [(0, 1, (.c (.int .u64 6)))]⟩,
       ⟨(some 37), (some (33, true)), .call 18 [(.t 34), (.t 35), (.t 36)]⟩,
       ⟨(some 38), (some (33, true)), .build [(.int .u64 0), (.int .u64 0), (.int .u64 0), (.int .u64 0)] [(0, 1, (.c (.int .u64 1)))]⟩,
       ⟨(some 39), (some (33, true)), .eqc false 4 [(0, .int), (1, .int), (2, .int), (3, .int)] (.t 37) (.t 38)⟩,
       ⟨(some 40), none, .pick (.t 33) (.t 39) (.c (.bool false))⟩,
       ⟨(some 0), none, .mv (.t 40)⟩])
     .ret)))
theorem fn15 : FnC P0 G0 [] 15 = some (41, [.t 0], c15) := by kernel_rfl
/-- cartouche/mod.New -/
noncomputable def c16 : C :=
  (.seq
   (.reg [⟨(some 1), none, .box true 16001 4 (.t 0)⟩,
     ⟨(some 2), none, .mv (.c (.v (.pointer none)))⟩,
     ⟨(some 3), none, .mv (.c (.int .i64 0))⟩])
   (.seq
    (.seq
     (.reg [⟨(some 5), none, .idxP 4 1 (.t 1) (.c (.int .i64 0))⟩,
       ⟨(some 6), none, .load 1 false (.t 5)⟩,
       ⟨(some 7), none, .bin .and (.t 6) (.c (.int .u64 1))⟩,
       ⟨(some 8), none, .bin .eql (.t 7) (.c (.int .u64 0))⟩,
       ⟨(some 9), none, .mv (.t 8)⟩,
       ⟨(some 10), (some (9, false)), .load 4 true (.t 1)⟩,
       ⟨(some 11), (some (9, false)), .build [(.int .u64 0), (.int .u64 0), (.int .u64 0), (.int .u64 0)] [(0, 1, (.c (.int .u64 1)))]⟩,
       ⟨(some 12), (some (9, false)), .eqc false 4 [(0, .int), (1, .int), (2, .int), (3, .int)] (.t 10) (.t 11)⟩,
       ⟨(some 13), none, .pick (.t 9) (.c (.bool true)) (.t 12)⟩])
     (.cond (.t 13)
      (.seq
       (.reg [⟨(some 2), none, .mv (.c (.v (.pointer none)))⟩,
         ⟨(some 3), none, .mv (.c (.int .i64 1))⟩])
       .ret)
      .skip))
    (.seq
     (.reg [⟨(some 14), none, .load 4 true (.t 1)⟩,
       ⟨(some 15), none, .idxP 4 1 (.t 1) (.c (.int .i64 0))⟩,
       ⟨(some 16), none, .load 1 false (.t 15)⟩,
       ⟨(some 17), none, .build [(.int .u64 0), (.int .u64 0), (.int .u64 0), (.int .u64 0)] [(0, 1, (.c (.int .u64 1)))]⟩,
       ⟨(some 18), none, .build [(.int .u64 0), (.int .u64 0), (.int .u64 0), (.int .u64 0), (.int .u64 0), (.int .u64 0), (.int .u64 0), (.int .u64 0), (.int .u64 0)] [(0, 4, (.t 14)), (4, 1, (.t 16)), (5, 4, (.t 17))]⟩,
       ⟨(some 19), none, .box false 16019 9 (.t 18)⟩,
       ⟨(some 4), none, .mv (.t 19)⟩])
     (.seq
      (.seq
       (.reg [⟨(some 20), none, .mv (.c (.int .i64 0))⟩])
       (.block 0
        (.loop
         (.seq
          (.reg [⟨(some 21), none, .bin .lss (.t 20) (.c (.int .i64 6))⟩])
          (.seq
           (.cond (.t 21)
            .skip
            (.exit 0))
           (.seq
            (.block 1
             (.reg [⟨(some 22), none, .mv (.t 4)⟩,
               ⟨(some 23), none, .nck (.t 22)⟩,
               ⟨(some 24), none, .fldA 4 (.t 23)⟩,
               ⟨(some 25), none, .load 1 false (.t 24)⟩,
               ⟨(some 26), none, .idxP 4 1 (.t 1) (.c (.int .i64 0))⟩,
               ⟨(some 27), none, .load 1 false (.t 26)⟩,
               ⟨(some 28), none, .mv (.t 4)⟩,
               ⟨(some 29), none, .nck (.t 28)⟩,
               ⟨(some 30), none, .fldA 4 (.t 29)⟩,
               ⟨(some 31), none, .load 1 false (.t 30)⟩,
               ⟨(some 32), none, .bin .mul (.t 27) (.t 31)⟩,
               ⟨(some 33), none, .bin .sub (.c (.int .u64 2)) (.t 32)⟩,
               ⟨(some 34), none, .bin .mul (.t 25) (.t 33)⟩,
               ⟨(some 35), none, .nck (.t 22)⟩,
               ⟨(some 36), none, .fldA 4 (.t 35)⟩,
               ⟨none, none, .store 1 (.t 36) (.t 34)⟩]))
            (.reg [⟨(some 37), none, .bin .add (.t 20) (.c (.int .i64 1))⟩,
              ⟨(some 20), none, .mv (.t 37)⟩])))))))
      (.seq
       (.reg [⟨(some 38), none, .mv (.t 4)⟩,
         ⟨(some 39), none, .mv (.t 4)⟩,
         ⟨(some 40), none, .nck (.t 39)⟩,
         ⟨(some 41), none, .fldA 4 (.t 40)⟩,
         ⟨(some 42), none, .load 1 false (.t 41)⟩,
         ⟨(some 43), none, .un .neg (.t 42)⟩,
         ⟨(some 44), none, .nck (.t 38)⟩,
         ⟨(some 45), none, .fldA 4 (.t 44)⟩,
         ⟨none, none, .store 1 (.t 45) (.t 43)⟩])
       (.seq
        (.seq
         (.reg [⟨(some 46), none, .mv (.c (.int .i64 0))⟩])
         (.block 2
          (.loop
           (.seq
            (.reg [⟨(some 47), none, .bin .lss (.t 46) (.c (.int .i64 512))⟩])
            (.seq
             (.cond (.t 47)
              .skip
              (.exit 2))
             (.seq
              (.block 3
               (.reg [⟨(some 48), none, .mv (.t 4)⟩,
                 ⟨(some 49), none, .mv (.t 4)⟩,
                 ⟨(some 50), none, .mv (.t 4)⟩,
                 ⟨(some 51), none, .nck (.t 50)⟩,
                 ⟨(some 52), none, .fldA 5 (.t 51)⟩,
                 ⟨(some 53), none, .load 4 true (.t 52)⟩,
                 ⟨(some 54), none, .call 42 [(.t 49), (.t 53)]⟩,
                 ⟨(some 55), none, .nck (.t 48)⟩,
                 ⟨(some 56), none, .fldA 5 (.t 55)⟩,
                 ⟨none, none, .store 4 (.t 56) (.t 54)⟩]))
              (.reg [⟨(some 57), none, .bin .add (.t 46) (.c (.int .i64 1))⟩,
                ⟨(some 46), none, .mv (.t 57)⟩])))))))
        (.seq
         (.reg [⟨(some 58), none, .mv (.t 4)⟩,
           ⟨(some 2), none, .mv (.t 58)⟩,
           ⟨(some 3), none, .mv (.c (.int .i64 0))⟩])
         .ret)))))))
theorem fn16 : FnC P0 G0 [19] 16 = some (59, [.t 2, .t 3], c16) := by kernel_rfl
/-- (*cartouche/mod.Mod).Add -/
noncomputable def c17 : C :=
  (.seq
   (.reg [⟨(some 4), none, .box true 17004 4 (.t 1)⟩,
     ⟨(some 5), none, .box true 17005 4 (.t 2)⟩,
     ⟨(some 6), none, .alloc 17006 [(.int .u64 0), (.int .u64 0), (.int .u64 0), (.int .u64 0)]⟩])
   (.seq
    (.seq
     (.reg [⟨(some 9), none, .mv (.t 0)⟩,
       ⟨(some 10), none, .isnil false false (.t 9)⟩])
     (.cond (.t 10)
      (.seq
       (.reg [⟨(some 11), none, .build [(.int .u64 0), (.int .u64 0), (.int .u64 0), (.int .u64 0)] []⟩,
         ⟨none, none, .store 4 (.t 6) (.t 11)⟩])
       .ret)
      .skip))
    (.seq
     (.reg [⟨(some 13), none, .mv (.t 0)⟩,
       ⟨(some 14), none, .load 4 true (.t 4)⟩,
       ⟨(some 15), none, .pcall [] 44 [(.t 13), (.t 14)]⟩,
       ⟨(some 16), none, .mv (.t 0)⟩,
       ⟨(some 17), none, .load 4 true (.t 5)⟩,
       ⟨(some 18), none, .pcall [] 44 [(.t 16), (.t 17)]⟩,
       ⟨(some 19), none, .pcall [] 43 [(.t 15), (.t 18)]⟩,
       ⟨(some 12), none, .mv (.t 19)⟩,
       ⟨(some 20), none, .ext (.t 12) 0⟩,
       ⟨(some 21), none, .ext (.t 12) 1⟩,
       ⟨(some 7), none, .alloc 17007 [(.int .u64 0), (.int .u64 0), (.int .u64 0), (.int .u64 0)]⟩,
       ⟨none, none, .store 4 (.t 7) (.t 20)⟩,
       ⟨(some 8), none, .mv (.t 21)⟩])
     (.seq
      (.reg [⟨(some 22), none, .mv (.t 0)⟩,
        ⟨(some 23), none, .load 4 true (.t 7)⟩,
        ⟨(some 24), none, .mv (.t 8)⟩,
        ⟨(some 25), none, .call 45 [(.t 22), (.t 23), (.t 24)]⟩,
        ⟨none, none, .store 4 (.t 6) (.t 25)⟩])
      .ret))))
theorem fn17 : FnC P0 G0 [] 17 = some (26, [.cell 6 4 true], c17) := by kernel_rfl
/-- (*cartouche/mod.Mod).Mul -/
noncomputable def c18 : C :=
  (.seq
   (.reg [⟨(some 4), none, .box true 18004 4 (.t 1)⟩,
     ⟨(some 5), none, .box true 18005 4 (.t 2)⟩,
     ⟨(some 6), none, .alloc 18006 [(.int .u64 0), (.int .u64 0), (.int .u64 0), (.int .u64 0)]⟩])
   (.seq
    (.seq
     (.reg [⟨(some 7), none, .mv (.t 0)⟩,
       ⟨(some 8), none, .isnil false false (.t 7)⟩])
     (.cond (.t 8)
      (.seq
       (.reg [⟨(some 9), none, .build [(.int .u64 0), (.int .u64 0), (.int .u64 0), (.int .u64 0)] []⟩,
         ⟨none, none, .store 4 (.t 6) (.t 9)⟩])
       .ret)
      .skip))
    (.seq
     (.reg [⟨(some 10), none, .mv (.t 0)⟩,
       ⟨(some 11), none, .mv (.t 0)⟩,
       ⟨(some 12), none, .mv (.t 0)⟩,
       ⟨(some 13), none, .load 4 true (.t 4)⟩,
       ⟨(some 14), none, .pcall [] 44 [(.t 12), (.t 13)]⟩,
       ⟨(some 15), none, .mv (.t 0)⟩,
       ⟨(some 16), none, .load 4 true (.t 5)⟩,
       ⟨(some 17), none, .pcall [] 44 [(.t 15), (.t 16)]⟩,
       ⟨(some 18), none, .pcall [] 46 [(.t 11), (.t 14), (.t 17)]⟩,
       ⟨(some 19), none, .mv (.t 0)⟩,
       ⟨(some 20), none, .nck (.t 19)⟩,
       ⟨(some 21), none, .fldA 5 (.t 20)⟩,
       ⟨(some 22), none, .load 4 true (.t 21)⟩,
       ⟨(some 23), none, .pcall [] 46 [(.t 10), (.t 18), (.t 22)]⟩,
       ⟨none, none, .store 4 (.t 6) (.t 23)⟩])
     .ret)))
theorem fn18 : FnC P0 G0 [] 18 = some (24, [.cell 6 4 true], c18) := by kernel_rfl
/-- (*cartouche/mod.Mod).Sub -/
noncomputable def c19 : C :=
  (.seq
   (.reg [⟨(some 4), none, .box true 19004 4 (.t 1)⟩,
     ⟨(some 5), none, .box true 19005 4 (.t 2)⟩,
     ⟨(some 6), none, .alloc 19006 [(.int .u64 0), (.int .u64 0), (.int .u64 0), (.int .u64 0)]⟩])
   (.seq
    (.seq
     (.reg [⟨(some 11), none, .mv (.t 0)⟩,
       ⟨(some 12), none, .isnil false false (.t 11)⟩])
     (.cond (.t 12)
      (.seq
       (.reg [⟨(some 13), none, .build [(.int .u64 0), (.int .u64 0), (.int .u64 0), (.int .u64 0)] []⟩,
         ⟨none, none, .store 4 (.t 6) (.t 13)⟩])
       .ret)
      .skip))
    (.seq
     (.reg [⟨(some 15), none, .mv (.t 0)⟩,
       ⟨(some 16), none, .load 4 true (.t 4)⟩,
       ⟨(some 17), none, .pcall [] 44 [(.t 15), (.t 16)]⟩,
       ⟨(some 18), none, .mv (.t 0)⟩,
       ⟨(some 19), none, .load 4 true (.t 5)⟩,
       ⟨(some 20), none, .pcall [] 44 [(.t 18), (.t 19)]⟩,
       ⟨(some 21), none, .pcall [] 47 [(.t 17), (.t 20)]⟩,
       ⟨(some 14), none, .mv (.t 21)⟩,
       ⟨(some 22), none, .ext (.t 14) 0⟩,
       ⟨(some 23), none, .ext (.t 14) 1⟩,
       ⟨(some 7), none, .alloc 19007 [(.int .u64 0), (.int .u64 0), (.int .u64 0), (.int .u64 0)]⟩,
       ⟨none, none, .store 4 (.t 7) (.t 22)⟩,
       ⟨(some 8), none, .mv (.t 23)⟩])
     (.seq
      (.reg [⟨(some 25), none, .load 4 true (.t 7)⟩,
        ⟨(some 26), none, .mv (.t 0)⟩,
        ⟨(some 27), none, .nck (.t 26)⟩,
        ⟨(some 28), none, .fldA 0 (.t 27)⟩,
        ⟨(some 29), none, .load 4 true (.t 28)⟩,
        ⟨(some 30), none, .pcall [] 43 [(.t 25), (.t 29)]⟩,
        ⟨(some 24), none, .mv (.t 30)⟩,
        ⟨(some 31), none, .ext (.t 24) 0⟩,
        ⟨(some 32), none, .ext (.t 24) 1⟩,
        ⟨(some 9), none, .alloc 19009 [(.int .u64 0), (.int .u64 0), (.int .u64 0), (.int .u64 0)]⟩,
        ⟨none, none, .store 4 (.t 9) (.t 31)⟩,
        ⟨(some 10), none, .mv (.t 32)⟩])
      (.seq
       (.reg [⟨(some 33), none, .mv (.t 8)⟩,
         ⟨(some 34), none, .load 4 true (.t 9)⟩,
         ⟨(some 35), none, .load 4 true (.t 7)⟩,
         ⟨(some 36), none, .call 48 [(.t 33), (.t 34), (.t 35)]⟩,
         ⟨none, none, .store 4 (.t 6) (.t 36)⟩])
       .ret)))))
theorem fn19 : FnC P0 G0 [] 19 = some (37, [.cell 6 4 true], c19) := by kernel_rfl
/-- (*cartouche/mod.Mod).Pow -/
noncomputable def c20 : C :=
  (.seq
   (.reg [⟨(some 4), none, .box true 20004 4 (.t 1)⟩,
     ⟨(some 5), none, .box true 20005 4 (.t 2)⟩,
     ⟨(some 6), none, .alloc 20006 [(.int .u64 0), (.int .u64 0), (.int .u64 0), (.int .u64 0)]⟩])
   (.seq
    (.seq
     (.reg [⟨(some 10), none, .mv (.t 0)⟩,
       ⟨(some 11), none, .isnil false false (.t 10)⟩])
     (.cond (.t 11)
      (.seq
       (.reg [⟨(some 12), none, .build [(.int .u64 0), (.int .u64 0), (.int .u64 0), (.int .u64 0)] []⟩,
         ⟨none, none, .store 4 (.t 6) (.t 12)⟩])
       .ret)
      .skip))
    (.seq
     (.reg [⟨(some 13), none, .mv (.t 0)⟩,
       ⟨(some 14), none, .mv (.t 0)⟩,
       ⟨(some 15), none, .load 4 true (.t 4)⟩,
       ⟨(some 16), none, .pcall [] 44 [(.t 14), (.t 15)]⟩,
       ⟨(some 17), none, .mv (.t 0)⟩,
       ⟨(some 18), none, .nck (.t 17)⟩,
       ⟨(some 19), none, .fldA 5 (.t 18)⟩,
       ⟨(some 20), none, .load 4 true (.t 19)⟩,
       ⟨(some 21), none, .pcall [] 46 [(.t 13), (.t 16), (.t 20)]⟩,
       ⟨(some 7), none, .alloc 20007 [(.int .u64 0), (.int .u64 0), (.int .u64 0), (.int .u64 0)]⟩,
       ⟨none, none, .store 4 (.t 7) (.t 21)⟩])
     (.seq
      (.reg [⟨(some 22), none, .mv (.t 0)⟩,
        ⟨(some 23), none, .build [(.int .u64 0), (.int .u64 0), (.int .u64 0), (.int .u64 0)] [(0, 1, (.c (.int .u64 1)))]⟩,
        ⟨(some 24), none, .mv (.t 0)⟩,
        ⟨(some 25), none, .nck (.t 24)⟩,
        ⟨(some 26), none, .fldA 5 (.t 25)⟩,
        ⟨(some 27), none, .load 4 true (.t 26)⟩,
        ⟨(some 28), none, .call 46 [(.t 22), (.t 23), (.t 27)]⟩,
        ⟨(some 8), none, .alloc 20008 [(.int .u64 0), (.int .u64 0), (.int .u64 0), (.int .u64 0)]⟩,
        ⟨none, none, .store 4 (.t 8) (.t 28)⟩])
      (.seq
       (.seq
        (.reg [⟨(some 9), none, .mv (.c (.int .i64 255))⟩])
        (.block 0
         (.loop
          (.seq
           (.seq
            (.reg [⟨(some 29), none, .mv (.t 9)⟩,
              ⟨(some 30), none, .bin .geq (.t 29) (.c (.int .i64 0))⟩])
            (.cond (.t 30)
             .skip
             (.exit 0)))
           (.seq
            (.block 1
             (.seq
              (.reg [⟨(some 33), none, .mv (.t 0)⟩,
                ⟨(some 34), none, .load 4 true (.t 8)⟩,
                ⟨(some 35), none, .load 4 true (.t 8)⟩,
                ⟨(some 36), none, .call 46 [(.t 33), (.t 34), (.t 35)]⟩,
                ⟨none, none, .store 4 (.t 8) (.t 36)⟩])
              (.reg [⟨(some 37), none, .load 4 true (.t 5)⟩,
                ⟨(some 38), none, .mv (.t 9)⟩,
                ⟨(some 39), none, .pcall [] 49 [(.t 37), (.t 38)]⟩,
                ⟨(some 40), none, .mv (.t 0)⟩,
                ⟨(some 41), none, .load 4 true (.t 8)⟩,
                ⟨(some 42), none, .load 4 true (.t 7)⟩,
                ⟨(some 43), none, .pcall [] 46 [(.t 40), (.t 41), (.t 42)]⟩,
                ⟨(some 44), none, .load 4 true (.t 8)⟩,
                ⟨(some 45), none, .pcall [] 48 [(.t 39), (.t 43), (.t 44)]⟩,
                ⟨none, none, .store 4 (.t 8) (.t 45)⟩])))
            (.reg [⟨(some 31), none, .mv (.t 9)⟩,
              ⟨(some 32), none, .bin .sub (.t 31) (.c (.int .i64 1))⟩,
              ⟨(some 9), none, .mv (.t 32)⟩]))))))
       (.seq
        (.reg [⟨(some 46), none, .mv (.t 0)⟩,
          ⟨(some 47), none, .load 4 true (.t 8)⟩,
          ⟨(some 48), none, .build [(.int .u64 0), (.int .u64 0), (.int .u64 0), (.int .u64 0)] [(0, 1, (.c (.int .u64 1)))]⟩,
          ⟨(some 49), none, .call 46 [(.t 46), (.t 47), (.t 48)]⟩,
          ⟨none, none, .store 4 (.t 6) (.t 49)⟩])
        .ret))))))
theorem fn20 : FnC P0 G0 [] 20 = some (50, [.cell 6 4 true], c20) := by kernel_rfl
/-- cartouche/cartoucheref02.Pow -/
noncomputable def c21 : C :=
  (.seq
   (.reg [⟨(some 3), none, .box true 21003 4 (.t 0)⟩,
     ⟨(some 4), none, .box true 21004 4 (.t 1)⟩,
     ⟨(some 5), none, .box true 21005 4 (.t 2)⟩,
     ⟨(some 6), none, .alloc 21006 [(.int .u64 0), (.int .u64 0), (.int .u64 0), (.int .u64 0)]⟩])
   (.seq
    (.reg [⟨(some 10), none, .build [(.int .u64 0), (.int .u64 0), (.int .u64 0), (.int .u64 0)] [(0, 1, (.c (.int .u64 1)))]⟩,
      ⟨(some 11), none, .load 4 true (.t 5)⟩,
      ⟨(some 12), none, .call 25 [(.t 10), (.t 11)]⟩,
      ⟨(some 7), none, .alloc 21007 [(.int .u64 0), (.int .u64 0), (.int .u64 0), (.int .u64 0)]⟩,
      ⟨none, none, .store 4 (.t 7) (.t 12)⟩])
    (.seq
     (.reg [⟨(some 13), none, .load 4 true (.t 3)⟩,
       ⟨(some 14), none, .load 4 true (.t 5)⟩,
       ⟨(some 15), none, .call 25 [(.t 13), (.t 14)]⟩,
       ⟨(some 8), none, .alloc 21008 [(.int .u64 0), (.int .u64 0), (.int .u64 0), (.int .u64 0)]⟩,
       ⟨none, none, .store 4 (.t 8) (.t 15)⟩])
     (.seq
      (.seq
       (.reg [⟨(some 9), none, .mv (.c (.int .i64 0))⟩])
       (.block 0
        (.loop
         (.seq
          (.seq
           (.reg [⟨(some 16), none, .mv (.t 9)⟩,
             ⟨(some 17), none, .bin .lss (.t 16) (.c (.int .i64 256))⟩])
           (.cond (.t 17)
            .skip
            (.exit 0)))
          (.seq
           (.block 1
            (.seq
             (.seq
              (.reg [⟨(some 20), none, .mv (.t 9)⟩,
                ⟨(some 21), none, .bin .quo (.t 20) (.c (.int .i64 64))⟩,
                ⟨(some 22), none, .idxP 4 1 (.t 4) (.t 21)⟩,
                ⟨(some 23), none, .load 1 false (.t 22)⟩,
                ⟨(some 24), none, .mv (.t 9)⟩,
                ⟨(some 25), none, .bin .rem (.t 24) (.c (.int .i64 64))⟩,
                ⟨(some 26), none, .shf .shr (.t 23) (.t 25)⟩,
                ⟨(some 27), none, .bin .rem (.t 26) (.c (.int .u64 2))⟩,
                ⟨(some 28), none, .bin .eql (.t 27) (.c (.int .u64 1))⟩])
              (.cond (.t 28)
               (.reg [⟨(some 29), none, .load 4 true (.t 7)⟩,
                 ⟨(some 30), none, .load 4 true (.t 8)⟩,
                 ⟨(some 31), none, .load 4 true (.t 5)⟩,
                 ⟨(some 32), none, .call 29 [(.t 29), (.t 30), (.t 31)]⟩,
                 ⟨none, none, .store 4 (.t 7) (.t 32)⟩])
               .skip))
             (.reg [⟨(some 33), none, .load 4 true (.t 8)⟩,
               ⟨(some 34), none, .load 4 true (.t 8)⟩,
               ⟨(some 35), none, .load 4 true (.t 5)⟩,
               ⟨(some 36), none, .call 29 [(.t 33), (.t 34), (.t 35)]⟩,
               ⟨none, none, .store 4 (.t 8) (.t 36)⟩])))
           (.reg [⟨(some 18), none, .mv (.t 9)⟩,
             ⟨(some 19), none, .bin .add (.t 18) (.c (.int .i64 1))⟩,
             ⟨(some 9), none, .mv (.t 19)⟩]))))))
      (.seq
       (.reg [⟨(some 37), none, .load 4 true (.t 7)⟩,
         ⟨none, none, .store 4 (.t 6) (.t 37)⟩])
       .ret)))))
theorem fn21 : FnC P0 G0 [] 21 = some (38, [.cell 6 4 true], c21) := by kernel_rfl
/-- (*cartouche/mod.Mod).Inv -/
noncomputable def c22 : C :=
  (.seq
   (.reg [⟨(some 3), none, .box true 22003 4 (.t 1)⟩,
     ⟨(some 4), none, .alloc 22004 [(.int .u64 0), (.int .u64 0), (.int .u64 0), (.int .u64 0)]⟩])
   (.seq
    (.seq
     (.reg [⟨(some 7), none, .mv (.t 0)⟩,
       ⟨(some 8), none, .isnil false false (.t 7)⟩])
     (.cond (.t 8)
      (.seq
       (.reg [⟨(some 9), none, .build [(.int .u64 0), (.int .u64 0), (.int .u64 0), (.int .u64 0)] []⟩,
         ⟨none, none, .store 4 (.t 4) (.t 9)⟩])
       .ret)
      .skip))
    (.seq
     (.reg [⟨(some 11), none, .mv (.t 0)⟩,
       ⟨(some 12), none, .nck (.t 11)⟩,
       ⟨(some 13), none, .fldA 0 (.t 12)⟩,
       ⟨(some 14), none, .load 4 true (.t 13)⟩,
       ⟨(some 15), none, .build [(.int .u64 0), (.int .u64 0), (.int .u64 0), (.int .u64 0)] [(0, 1, (.c (.int .u64 2)))]⟩,
       ⟨(some 16), none, .call 47 [(.t 14), (.t 15)]⟩,
       ⟨(some 10), none, .mv (.t 16)⟩,
       ⟨(some 17), none, .ext (.t 10) 0⟩,
       ⟨(some 18), none, .ext (.t 10) 1⟩,
       ⟨(some 5), none, .alloc 22005 [(.int .u64 0), (.int .u64 0), (.int .u64 0), (.int .u64 0)]⟩,
       ⟨none, none, .store 4 (.t 5) (.t 17)⟩,
       ⟨(some 6), none, .mv (.t 18)⟩])
     (.seq
      (.reg [⟨(some 19), none, .mv (.t 0)⟩,
        ⟨(some 20), none, .load 4 true (.t 3)⟩,
        ⟨(some 21), none, .load 4 true (.t 5)⟩,
        ⟨(some 22), none, .call 20 [(.t 19), (.t 20), (.t 21)]⟩,
        ⟨none, none, .store 4 (.t 4) (.t 22)⟩])
      .ret))))
theorem fn22 : FnC P0 G0 [] 22 = some (23, [.cell 4 4 true], c22) := by kernel_rfl
/-- cartouche/cartoucheref02.Inv -/
noncomputable def c23 : C :=
  (.seq
   (.reg [⟨(some 2), none, .box true 23002 4 (.t 0)⟩,
     ⟨(some 3), none, .box true 23003 4 (.t 1)⟩,
     ⟨(some 4), none, .alloc 23004 [(.int .u64 0), (.int .u64 0), (.int .u64 0), (.int .u64 0)]⟩])
   (.seq
    (.reg [⟨(some 5), none, .load 4 true (.t 2)⟩,
      ⟨(some 6), none, .load 4 true (.t 3)⟩,
      ⟨(some 7), none, .build [(.int .u64 0), (.int .u64 0), (.int .u64 0), (.int .u64 0)] [(0, 1, (.c (.int .u64 2)))]⟩,
      ⟨(some 8), none, .pcall [] 50 [(.t 6), (.t 7)]⟩,
      ⟨(some 9), none, .load 4 true (.t 3)⟩,
      ⟨(some 10), none, .pcall [] 21 [(.t 5), (.t 8), (.t 9)]⟩,
      ⟨none, none, .store 4 (.t 4) (.t 10)⟩])
    .ret))
theorem fn23 : FnC P0 G0 [] 23 = some (11, [.cell 4 4 true], c23) := by kernel_rfl
/-- cartouche/cartouchelaw02.Primes -/
noncomputable def c24 : C :=
  (.seq
   (.reg [⟨(some 0), none, .alloc 24000 [(.int .u64 0), (.int .u64 0), (.int .u64 0), (.int .u64 0), (.int .u64 0), (.int .u64 0), (.int .u64 0), (.int .u64 0), (.int .u64 0), (.int .u64 0), (.int .u64 0), (.int .u64 0), (.int .u64 0), (.int .u64 0), (.int .u64 0), (.int .u64 0)]⟩])
   (.seq
    (.reg [⟨(some 1), none, .build [(.int .u64 0), (.int .u64 0), (.int .u64 0), (.int .u64 0)] [(0, 1, (.c (.int .u64 18446744073709551597))), (1, 1, (.c (.int .u64 18446744073709551615))), (2, 1, (.c (.int .u64 18446744073709551615))), (3, 1, (.c (.int .u64 9223372036854775807)))]⟩,
      ⟨(some 2), none, .build [(.int .u64 0), (.int .u64 0), (.int .u64 0), (.int .u64 0)] [(0, 1, (.c (.int .u64 6346243789798364141))), (1, 1, (.c (.int .u64 1503914060200516822))), (2, 1, (.c (.int .u64 0))), (3, 1, (.c (.int .u64 1152921504606846976)))]⟩,
      ⟨(some 3), none, .build [(.int .u64 0), (.int .u64 0), (.int .u64 0), (.int .u64 0)] [(0, 1, (.c (.int .u64 18446744073709551615))), (1, 1, (.c (.int .u64 4294967295))), (2, 1, (.c (.int .u64 0))), (3, 1, (.c (.int .u64 18446744069414584321)))]⟩,
      ⟨(some 4), none, .build [(.int .u64 0), (.int .u64 0), (.int .u64 0), (.int .u64 0)] [(0, 1, (.c (.int .u64 17562291160714782033))), (1, 1, (.c (.int .u64 13611842547513532036))), (2, 1, (.c (.int .u64 18446744073709551615))), (3, 1, (.c (.int .u64 18446744069414584320)))]⟩,
      ⟨(some 5), none, .build [(.int .u64 0), (.int .u64 0), (.int .u64 0), (.int .u64 0), (.int .u64 0), (.int .u64 0), (.int .u64 0), (.int .u64 0), (.int .u64 0), (.int .u64 0), (.int .u64 0), (.int .u64 0), (.int .u64 0), (.int .u64 0), (.int .u64 0), (.int .u64 0)] [(0, 4, (.t 1)), (4, 4, (.t 2)), (8, 4, (.t 3)), (12, 4, (.t 4))]⟩,
      ⟨none, none, .store 16 (.t 0) (.t 5)⟩])
    .ret))
theorem fn24 : FnC P0 G0 [] 24 = some (6, [.cell 0 16 true], c24) := by kernel_rfl
/-- cartouche/cartoucheref02.Low -/
noncomputable def c25 : C :=
  (.seq
   (.reg [⟨(some 2), none, .box true 25002 4 (.t 0)⟩,
     ⟨(some 3), none, .box true 25003 4 (.t 1)⟩,
     ⟨(some 4), none, .alloc 25004 [(.int .u64 0), (.int .u64 0), (.int .u64 0), (.int .u64 0)]⟩])
   (.seq
    (.reg [⟨(some 5), none, .idxP 4 1 (.t 2) (.c (.int .i64 0))⟩,
      ⟨(some 6), none, .load 1 false (.t 5)⟩,
      ⟨(some 7), none, .idxP 4 1 (.t 2) (.c (.int .i64 1))⟩,
      ⟨(some 8), none, .load 1 false (.t 7)⟩,
      ⟨(some 9), none, .idxP 4 1 (.t 2) (.c (.int .i64 2))⟩,
      ⟨(some 10), none, .load 1 false (.t 9)⟩,
      ⟨(some 11), none, .idxP 4 1 (.t 2) (.c (.int .i64 3))⟩,
      ⟨(some 12), none, .load 1 false (.t 11)⟩,
      ⟨(some 13), none, .build [(.int .u64 0), (.int .u64 0), (.int .u64 0), (.int .u64 0), (.int .u64 0), (.int .u64 0), (.int .u64 0), (.int .u64 0), (.int .u64 0)] [(0, 1, (.t 6)), (1, 1, (.t 8)), (2, 1, (.t 10)), (3, 1, (.t 12))]⟩,
      ⟨(some 14), none, .load 4 true (.t 3)⟩,
      ⟨(some 15), none, .call 51 [(.t 13), (.t 14)]⟩,
      ⟨none, none, .store 4 (.t 4) (.t 15)⟩])
    .ret))
theorem fn25 : FnC P0 G0 [] 25 = some (16, [.cell 4 4 true], c25) := by kernel_rfl
/-- (*cartouche/mod.Mod).Modulus -/
noncomputable def c26 : C :=
  (.seq
   (.reg [⟨(some 2), none, .alloc 26002 [(.int .u64 0), (.int .u64 0), (.int .u64 0), (.int .u64 0)]⟩])
   (.seq
    (.seq
     (.reg [⟨(some 3), none, .mv (.t 0)⟩,
       ⟨(some 4), none, .isnil false false (.t 3)⟩])
     (.cond (.t 4)
      (.seq
       (.reg [⟨(some 5), none, .build [(.int .u64 0), (.int .u64 0), (.int .u64 0), (.int .u64 0)] []⟩,
         ⟨none, none, .store 4 (.t 2) (.t 5)⟩])
       .ret)
      .skip))
    (.seq
     (.reg [⟨(some 6), none, .mv (.t 0)⟩,
       ⟨(some 7), none, .nck (.t 6)⟩,
       ⟨(some 8), none, .fldA 0 (.t 7)⟩,
       ⟨(some 9), none, .load 4 true (.t 8)⟩,
       ⟨none, none, .store 4 (.t 2) (.t 9)⟩])
     .ret)))
theorem fn26 : FnC P0 G0 [] 26 = some (10, [.cell 2 4 true], c26) := by kernel_rfl
/-- cartouche/cartoucheref02.Add -/
noncomputable def c27 : C :=
  (.seq
   (.reg [⟨(some 3), none, .box true 27003 4 (.t 0)⟩,
     ⟨(some 4), none, .box true 27004 4 (.t 1)⟩,
     ⟨(some 5), none, .box true 27005 4 (.t 2)⟩,
     ⟨(some 6), none, .alloc 27006 [(.int .u64 0), (.int .u64 0), (.int .u64 0), (.int .u64 0)]⟩])
   (.seq
    (.reg [⟨(some 7), none, .alloc 27007 [(.int .u64 0), (.int .u64 0), (.int .u64 0), (.int .u64 0), (.int .u64 0), (.int .u64 0), (.int .u64 0), (.int .u64 0), (.int .u64 0)]⟩])
    (.seq
     (.reg [⟨(some 8), none, .mv (.c (.int .u64 0))⟩])
     (.seq
      (.seq
       (.reg [⟨(some 9), none, .mv (.c (.int .i64 0))⟩])
       (.block 0
        (.loop
         (.seq
          (.seq
           (.reg [⟨(some 10), none, .mv (.t 9)⟩,
             ⟨(some 11), none, .bin .lss (.t 10) (.c (.int .i64 4))⟩])
           (.cond (.t 11)
            .skip
            (.exit 0)))
          (.seq
           (.block 1
            (.reg [⟨(some 15), none, .mv (.t 9)⟩,
              ⟨(some 16), none, .mv (.t 9)⟩,
              ⟨(some 17), none, .idxP 4 1 (.t 3) (.t 16)⟩,
              ⟨(some 18), none, .load 1 false (.t 17)⟩,
              ⟨(some 19), none, .mv (.t 9)⟩,
              ⟨(some 20), none, .idxP 4 1 (.t 4) (.t 19)⟩,
              ⟨(some 21), none, .load 1 false (.t 20)⟩,
              ⟨(some 22), none, .mv (.t 8)⟩,
              ⟨(some 23), none, .carry false (.t 18) (.t 21) (.t 22)⟩,
              ⟨(some 14), none, .mv (.t 23)⟩,
              ⟨(some 24), none, .ext (.t 14) 0⟩,
              ⟨(some 25), none, .ext (.t 14) 1⟩,
              ⟨(some 26), none, .idxP 9 1 (.t 7) (.t 15)⟩,
              ⟨none, none, .store 1 (.t 26) (.t 24)⟩,
              ⟨(some 8), none, .mv (.t 25)⟩]))
           (.reg [⟨(some 12), none, .mv (.t 9)⟩,
             ⟨(some 13), none, .bin .add (.t 12) (.c (.int .i64 1))⟩,
             ⟨(some 9), none, .mv (.t 13)⟩]))))))
      (.seq
       (.reg [⟨(some 27), none, .mv (.t 8)⟩,
         ⟨(some 28), none, .idxP 9 1 (.t 7) (.c (.int .i64 4))⟩,
         ⟨none, none, .store 1 (.t 28) (.t 27)⟩])
       (.seq
        (.reg [⟨(some 29), none, .load 9 true (.t 7)⟩,
          ⟨(some 30), none, .load 4 true (.t 5)⟩,
          ⟨(some 31), none, .call 51 [(.t 29), (.t 30)]⟩,
          ⟨none, none, .store 4 (.t 6) (.t 31)⟩])
        .ret))))))
theorem fn27 : FnC P0 G0 [] 27 = some (32, [.cell 6 4 true], c27) := by kernel_rfl
/-- cartouche/cartoucheref02.Sub -/
noncomputable def c28 : C :=
  (.seq
   (.reg [⟨(some 3), none, .box true 28003 4 (.t 0)⟩,
     ⟨(some 4), none, .box true 28004 4 (.t 1)⟩,
     ⟨(some 5), none, .box true 28005 4 (.t 2)⟩,
     ⟨(some 6), none, .alloc 28006 [(.int .u64 0), (.int .u64 0), (.int .u64 0), (.int .u64 0)]⟩])
   (.seq
    (.reg [⟨(some 7), none, .load 4 true (.t 3)⟩,
      ⟨(some 8), none, .load 4 true (.t 5)⟩,
      ⟨(some 9), none, .pcall [] 25 [(.t 7), (.t 8)]⟩,
      ⟨(some 10), none, .load 4 true (.t 4)⟩,
      ⟨(some 11), none, .load 4 true (.t 5)⟩,
      ⟨(some 12), none, .pcall [] 53 [(.t 10), (.t 11)]⟩,
      ⟨(some 13), none, .load 4 true (.t 5)⟩,
      ⟨(some 14), none, .pcall [] 27 [(.t 9), (.t 12), (.t 13)]⟩,
      ⟨none, none, .store 4 (.t 6) (.t 14)⟩])
    .ret))
theorem fn28 : FnC P0 G0 [] 28 = some (15, [.cell 6 4 true], c28) := by kernel_rfl
/-- cartouche/cartoucheref02.Mul -/
noncomputable def c29 : C :=
  (.seq
   (.reg [⟨(some 3), none, .box true 29003 4 (.t 0)⟩,
     ⟨(some 4), none, .box true 29004 4 (.t 1)⟩,
     ⟨(some 5), none, .box true 29005 4 (.t 2)⟩,
     ⟨(some 6), none, .alloc 29006 [(.int .u64 0), (.int .u64 0), (.int .u64 0), (.int .u64 0)]⟩])
   (.seq
    (.reg [⟨(some 7), none, .alloc 29007 [(.int .u64 0), (.int .u64 0), (.int .u64 0), (.int .u64 0), (.int .u64 0), (.int .u64 0), (.int .u64 0), (.int .u64 0), (.int .u64 0)]⟩])
    (.seq
     (.seq
      (.reg [⟨(some 8), none, .mv (.c (.int .i64 0))⟩])
      (.block 0
       (.loop
        (.seq
         (.seq
          (.reg [⟨(some 17), none, .mv (.t 8)⟩,
            ⟨(some 18), none, .bin .lss (.t 17) (.c (.int .i64 4))⟩])
          (.cond (.t 18)
           .skip
           (.exit 0)))
         (.seq
          (.block 1
           (.seq
            (.reg [⟨(some 9), none, .mv (.c (.int .u64 0))⟩])
            (.seq
             (.seq
              (.reg [⟨(some 10), none, .mv (.c (.int .i64 0))⟩])
              (.block 2
               (.loop
                (.seq
                 (.seq
                  (.reg [⟨(some 21), none, .mv (.t 10)⟩,
                    ⟨(some 22), none, .bin .lss (.t 21) (.c (.int .i64 4))⟩])
                  (.cond (.t 22)
                   .skip
                   (.exit 2)))
                 (.seq
                  (.block 3
                   (.seq
                    (.reg [⟨(some 26), none, .mv (.t 8)⟩,
                      ⟨(some 27), none, .idxP 4 1 (.t 3) (.t 26)⟩,
                      ⟨(some 28), none, .load 1 false (.t 27)⟩,
                      ⟨(some 29), none, .mv (.t 10)⟩,
                      ⟨(some 30), none, .idxP 4 1 (.t 4) (.t 29)⟩,
                      ⟨(some 31), none, .load 1 false (.t 30)⟩,
                      ⟨(some 32), none, .call 54 [(.t 28), (.t 31)]⟩,
                      ⟨(some 25), none, .mv (.t 32)⟩,
                      ⟨(some 33), none, .ext (.t 25) 0⟩,
                      ⟨(some 34), none, .ext (.t 25) 1⟩,
                      ⟨(some 11), none, .mv (.t 33)⟩,
                      ⟨(some 12), none, .mv (.t 34)⟩])
                    (.seq
                     (.reg [⟨(some 36), none, .mv (.t 12)⟩,
                       ⟨(some 37), none, .mv (.t 8)⟩,
                       ⟨(some 38), none, .mv (.t 10)⟩,
                       ⟨(some 39), none, .bin .add (.t 37) (.t 38)⟩,
                       ⟨(some 40), none, .idxP 9 1 (.t 7) (.t 39)⟩,
                       ⟨(some 41), none, .load 1 false (.t 40)⟩,
                       ⟨(some 42), none, .carry false (.t 36) (.t 41) (.c (.int .u64 0))⟩,
                       ⟨(some 35), none, .mv (.t 42)⟩,
                       ⟨(some 43), none, .ext (.t 35) 0⟩,
                       ⟨(some 44), none, .ext (.t 35) 1⟩,
                       ⟨(some 13), none, .mv (.t 43)⟩,
                       ⟨(some 14), none, .mv (.t 44)⟩])
                     (.seq
                      (.reg [⟨(some 46), none, .mv (.t 13)⟩,
                        ⟨(some 47), none, .mv (.t 9)⟩,
                        ⟨(some 48), none, .carry false (.t 46) (.t 47) (.c (.int .u64 0))⟩,
                        ⟨(some 45), none, .mv (.t 48)⟩,
                        ⟨(some 49), none, .ext (.t 45) 0⟩,
                        ⟨(some 50), none, .ext (.t 45) 1⟩,
                        ⟨(some 15), none, .mv (.t 49)⟩,
                        ⟨(some 16), none, .mv (.t 50)⟩])
                      (.seq
                       (.reg [⟨(some 51), none, .mv (.t 8)⟩,
                         ⟨(some 52), none, .mv (.t 10)⟩,
                         ⟨(some 53), none, .bin .add (.t 51) (.t 52)⟩,
                         ⟨(some 54), none, .mv (.t 15)⟩,
                         ⟨(some 55), none, .idxP 9 1 (.t 7) (.t 53)⟩,
                         ⟨none, none, .store 1 (.t 55) (.t 54)⟩])
                       (.reg [⟨(some 56), none, .mv (.t 11)⟩,
                         ⟨(some 57), none, .mv (.t 14)⟩,
                         ⟨(some 58), none, .bin .add (.t 56) (.t 57)⟩,
                         ⟨(some 59), none, .mv (.t 16)⟩,
                         ⟨(some 60), none, .bin .add (.t 58) (.t 59)⟩,
                         ⟨(some 9), none, .mv (.t 60)⟩]))))))
                  (.reg [⟨(some 23), none, .mv (.t 10)⟩,
                    ⟨(some 24), none, .bin .add (.t 23) (.c (.int .i64 1))⟩,
                    ⟨(some 10), none, .mv (.t 24)⟩]))))))
             (.reg [⟨(some 61), none, .mv (.t 8)⟩,
               ⟨(some 62), none, .bin .add (.t 61) (.c (.int .i64 4))⟩,
               ⟨(some 63), none, .mv (.t 9)⟩,
               ⟨(some 64), none, .idxP 9 1 (.t 7) (.t 62)⟩,
               ⟨none, none, .store 1 (.t 64) (.t 63)⟩]))))
          (.reg [⟨(some 19), none, .mv (.t 8)⟩,
            ⟨(some 20), none, .bin .add (.t 19) (.c (.int .i64 1))⟩,
            ⟨(some 8), none, .mv (.t 20)⟩]))))))
     (.seq
      (.reg [⟨(some 65), none, .load 9 true (.t 7)⟩,
        ⟨(some 66), none, .load 4 true (.t 5)⟩,
        ⟨(some 67), none, .call 51 [(.t 65), (.t 66)]⟩,
        ⟨none, none, .store 4 (.t 6) (.t 67)⟩])
      .ret))))
theorem fn29 : FnC P0 G0 [] 29 = some (68, [.cell 6 4 true], c29) := by kernel_rfl
/-- (*cartouche/mod.Mod).Reduce -/
noncomputable def c30 : C :=
  (.seq
   (.reg [⟨(some 4), none, .alloc 30004 [(.int .u64 0), (.int .u64 0), (.int .u64 0), (.int .u64 0)]⟩])
   (.seq
    (.reg [⟨(some 5), none, .alloc 30005 [(.int .u64 0), (.int .u64 0), (.int .u64 0), (.int .u64 0)]⟩])
    (.seq
     (.seq
      (.reg [⟨(some 11), none, .mv (.t 0)⟩,
        ⟨(some 12), none, .isnil false false (.t 11)⟩])
      (.cond (.t 12)
       (.seq
        (.reg [⟨(some 13), none, .load 4 true (.t 5)⟩,
          ⟨none, none, .store 4 (.t 4) (.t 13)⟩])
        .ret)
       .skip))
     (.seq
      (.seq
       (.reg [⟨(some 14), none, .mv (.t 1)⟩,
         ⟨(some 15), none, .len (.t 14)⟩,
         ⟨(some 16), none, .mv (.c (.int .i64 0))⟩])
       (.block 0
        (.loop
         (.seq
          (.reg [⟨(some 17), none, .bin .lss (.t 16) (.t 15)⟩])
          (.seq
           (.cond (.t 17)
            .skip
            (.exit 0))
           (.seq
            (.block 1
             (.seq
              (.reg [⟨(some 18), none, .idxA 1 (.t 14) (.t 16)⟩,
                ⟨(some 19), none, .load 1 false (.t 18)⟩,
                ⟨(some 7), none, .mv (.t 19)⟩])
              (.seq
               (.reg [⟨(some 8), none, .mv (.c (.int .i64 7))⟩])
               (.block 2
                (.loop
                 (.seq
                  (.seq
                   (.reg [⟨(some 20), none, .mv (.t 8)⟩,
                     ⟨(some 21), none, .bin .geq (.t 20) (.c (.int .i64 0))⟩])
                   (.cond (.t 21)
                    .skip
                    (.exit 2)))
                  (.seq
                   (.block 3
                    (.seq
                     (.reg [⟨(some 24), none, .mv (.t 0)⟩,
                       ⟨(some 25), none, .load 4 true (.t 5)⟩,
                       ⟨(some 26), none, .call 42 [(.t 24), (.t 25)]⟩,
                       ⟨none, none, .store 4 (.t 5) (.t 26)⟩])
                     (.seq
                      (.reg [⟨(some 28), none, .load 4 true (.t 5)⟩,
                        ⟨(some 29), none, .mv (.t 7)⟩,
                        ⟨(some 30), none, .cvt .u64 (.t 29)⟩,
                        ⟨(some 31), none, .mv (.t 8)⟩,
                        ⟨(some 32), none, .shf .shr (.t 30) (.t 31)⟩,
                        ⟨(some 33), none, .bin .and (.t 32) (.c (.int .u64 1))⟩,
                        ⟨(some 34), none, .build [(.int .u64 0), (.int .u64 0), (.int .u64 0), (.int .u64 0)] [(0, 1, (.t 33))]⟩,
                        ⟨(some 35), none, .pcall [] 43 [(.t 28), (.t 34)]⟩,
                        ⟨(some 27), none, .mv (.t 35)⟩,
                        ⟨(some 36), none, .ext (.t 27) 0⟩,
                        ⟨(some 37), none, .ext (.t 27) 1⟩,
                        ⟨(some 9), none, .alloc 30009 [(.int .u64 0), (.int .u64 0), (.int .u64 0), (.int .u64 0)]⟩,
                        ⟨none, none, .store 4 (.t 9) (.t 36)⟩,
                        ⟨(some 10), none, .mv (.t 37)⟩])
                      (.reg [⟨(some 38), none, .mv (.t 0)⟩,
                        ⟨(some 39), none, .load 4 true (.t 9)⟩,
                        ⟨(some 40), none, .mv (.t 10)⟩,
                        ⟨(some 41), none, .call 45 [(.t 38), (.t 39), (.t 40)]⟩,
                        ⟨none, none, .store 4 (.t 5) (.t 41)⟩]))))
                   (.reg [⟨(some 22), none, .mv (.t 8)⟩,
                     ⟨(some 23), none, .bin .sub (.t 22) (.c (.int .i64 1))⟩,
                     ⟨(some 8), none, .mv (.t 23)⟩]))))))))
            (.reg [⟨(some 42), none, .bin .add (.t 16) (.c (.int .i64 1))⟩,
              ⟨(some 16), none, .mv (.t 42)⟩])))))))
      (.seq
       (.reg [⟨(some 43), none, .load 4 true (.t 5)⟩,
         ⟨none, none, .store 4 (.t 4) (.t 43)⟩])
       .ret)))))
theorem fn30 : FnC P0 G0 [] 30 = some (44, [.cell 4 4 true], c30) := by kernel_rfl
/-- cartouche/cartoucheref02.Reduce -/
noncomputable def c31 : C :=
  (.seq
   (.reg [⟨(some 3), none, .box true 31003 4 (.t 1)⟩,
     ⟨(some 4), none, .alloc 31004 [(.int .u64 0), (.int .u64 0), (.int .u64 0), (.int .u64 0)]⟩])
   (.seq
    (.reg [⟨(some 5), none, .alloc 31005 [(.int .u64 0), (.int .u64 0), (.int .u64 0), (.int .u64 0)]⟩])
    (.seq
     (.seq
      (.reg [⟨(some 6), none, .mv (.c (.int .i64 0))⟩])
      (.block 0
       (.loop
        (.seq
         (.seq
          (.reg [⟨(some 7), none, .mv (.t 6)⟩,
            ⟨(some 8), none, .mv (.t 0)⟩,
            ⟨(some 9), none, .len (.t 8)⟩,
            ⟨(some 10), none, .bin .lss (.t 7) (.t 9)⟩])
          (.cond (.t 10)
           .skip
           (.exit 0)))
         (.seq
          (.block 1
           (.reg [⟨(some 13), none, .idxP 4 1 (.t 5) (.c (.int .i64 0))⟩,
             ⟨(some 14), none, .load 1 false (.t 13)⟩,
             ⟨(some 15), none, .shf .shl (.t 14) (.c (.int .u64 8))⟩,
             ⟨(some 16), none, .mv (.t 0)⟩,
             ⟨(some 17), none, .mv (.t 6)⟩,
             ⟨(some 18), none, .idxA 1 (.t 16) (.t 17)⟩,
             ⟨(some 19), none, .load 1 false (.t 18)⟩,
             ⟨(some 20), none, .cvt .u64 (.t 19)⟩,
             ⟨(some 21), none, .bin .add (.t 15) (.t 20)⟩,
             ⟨(some 22), none, .idxP 4 1 (.t 5) (.c (.int .i64 1))⟩,
             ⟨(some 23), none, .load 1 false (.t 22)⟩,
             ⟨(some 24), none, .shf .shl (.t 23) (.c (.int .u64 8))⟩,
             ⟨(some 25), none, .idxP 4 1 (.t 5) (.c (.int .i64 0))⟩,
             ⟨(some 26), none, .load 1 false (.t 25)⟩,
             ⟨(some 27), none, .shf .shr (.t 26) (.c (.int .u64 56))⟩,
             ⟨(some 28), none, .bin .add (.t 24) (.t 27)⟩,
             ⟨(some 29), none, .idxP 4 1 (.t 5) (.c (.int .i64 2))⟩,
             ⟨(some 30), none, .load 1 false (.t 29)⟩,
             ⟨(some 31), none, .shf .shl (.t 30) (.c (.int .u64 8))⟩,
             ⟨(some 32), none, .idxP 4 1 (.t 5) (.c (.int .i64 1))⟩,
             ⟨(some 33), none, .load 1 false (.t 32)⟩,
             ⟨(some 34), none, .shf .shr (.t 33) (.c (.int .u64 56))⟩,
             ⟨(some 35), none, .bin .add (.t 31) (.t 34)⟩,
             ⟨(some 36), none, .idxP 4 1 (.t 5) (.c (.int .i64 3))⟩,
             ⟨(some 37), none, .load 1 false (.t 36)⟩,
             ⟨(some 38), none, .shf .shl (.t 37) (.c (.int .u64 8))⟩,
             ⟨(some 39), none, .idxP 4 1 (.t 5) (.c (.int .i64 2))⟩,
             ⟨(some 40), none, .load 1 false (.t 39)⟩,
             ⟨(some 41), none, .shf .shr (.t 40) (.c (.int .u64 56))⟩,
             ⟨(some 42), none, .bin .add (.t 38) (.t 41)⟩,
             ⟨(some 43), none, .idxP 4 1 (.t 5) (.c (.int .i64 3))⟩,
             ⟨(some 44), none, .load 1 false (.t 43)⟩,
             ⟨(some 45), none, .shf .shr (.t 44) (.c (.int .u64 56))⟩,
             ⟨(some 46), none, .build [(.int .u64 0), (.int .u64 0), (.int .u64 0), (.int .u64 0), (.int .u64 0), (.int .u64 0), (.int .u64 0), (.int .u64 0), (.int .u64 0)] [(0, 1, (.t 21)), (1, 1, (.t 28)), (2, 1, (.t 35)), (3, 1, (.t 42)), (4, 1, (.t 45))]⟩,
             ⟨(some 47), none, .load 4 true (.t 3)⟩,
             ⟨(some 48), none, .call 51 [(.t 46), (.t 47)]⟩,
             ⟨none, none, .store 4 (.t 5) (.t 48)⟩]))
          (.reg [⟨(some 11), none, .mv (.t 6)⟩,
            ⟨(some 12), none, .bin .add (.t 11) (.c (.int .i64 1))⟩,
            ⟨(some 6), none, .mv (.t 12)⟩]))))))
     (.seq
      (.reg [⟨(some 49), none, .load 4 true (.t 5)⟩,
        ⟨none, none, .store 4 (.t 4) (.t 49)⟩])
      .ret))))
theorem fn31 : FnC P0 G0 [] 31 = some (50, [.cell 4 4 true], c31) := by kernel_rfl
/-- cartouche/cartoucheref01.Big -/
noncomputable def c32 : C :=
  (.seq
   (.reg [⟨(some 2), none, .alloc 32002 [(.int .u64 0), (.int .u64 0), (.int .u64 0), (.int .u64 0)]⟩])
   (.seq
    (.reg [⟨(some 3), none, .alloc 32003 [(.int .i64 0), (.int .i64 0), (.int .i64 0), (.int .i64 0), (.int .i64 0), (.int .i64 0), (.int .i64 0), (.int .i64 0), (.int .i64 0), (.int .i64 0), (.int .i64 0), (.int .i64 0), (.int .i64 0), (.int .i64 0), (.int .i64 0), (.int .i64 0)]⟩])
    (.seq
     (.seq
      (.reg [⟨(some 4), none, .mv (.c (.int .i64 0))⟩])
      (.block 0
       (.loop
        (.seq
         (.seq
          (.reg [⟨(some 5), none, .mv (.t 4)⟩,
            ⟨(some 6), none, .bin .lss (.t 5) (.c (.int .i64 16))⟩])
          (.cond (.t 6)
           .skip
           (.exit 0)))
         (.seq
          (.block 1
           (.reg [⟨(some 9), none, .mv (.t 4)⟩,
             ⟨(some 10), none, .mv (.t 0)⟩,
             ⟨(some 11), none, .mv (.t 4)⟩,
             ⟨(some 12), none, .bin .mul (.c (.int .i64 2)) (.t 11)⟩,
             ⟨(some 13), none, .bin .sub (.c (.int .i64 31)) (.t 12)⟩,
             ⟨(some 14), none, .idxA 1 (.t 10) (.t 13)⟩,
             ⟨(some 15), none, .load 1 false (.t 14)⟩,
             ⟨(some 16), none, .cvt .i64 (.t 15)⟩,
             ⟨(some 17), none, .mv (.t 0)⟩,
             ⟨(some 18), none, .mv (.t 4)⟩,
             ⟨(some 19), none, .bin .mul (.c (.int .i64 2)) (.t 18)⟩,
             ⟨(some 20), none, .bin .sub (.c (.int .i64 30)) (.t 19)⟩,
             ⟨(some 21), none, .idxA 1 (.t 17) (.t 20)⟩,
             ⟨(some 22), none, .load 1 false (.t 21)⟩,
             ⟨(some 23), none, .cvt .i64 (.t 22)⟩,
             ⟨(some 24), none, .bin .mul (.c (.int .i64 256)) (.t 23)⟩,
             ⟨(some 25), none, .bin .add (.t 16) (.t 24)⟩,
             ⟨(some 26), none, .idxP 16 1 (.t 3) (.t 9)⟩,
             ⟨none, none, .store 1 (.t 26) (.t 25)⟩]))
          (.reg [⟨(some 7), none, .mv (.t 4)⟩,
            ⟨(some 8), none, .bin .add (.t 7) (.c (.int .i64 1))⟩,
            ⟨(some 4), none, .mv (.t 8)⟩]))))))
     (.seq
      (.reg [⟨(some 27), none, .load 16 true (.t 3)⟩,
        ⟨(some 28), none, .call 55 [(.t 27)]⟩,
        ⟨none, none, .store 4 (.t 2) (.t 28)⟩])
      .ret))))
theorem fn32 : FnC P0 G0 [] 32 = some (29, [.cell 2 4 true], c32) := by kernel_rfl
/-- (*cartouche/mod.Mod).double -/
noncomputable def c42 : C :=
  (.seq
   (.reg [⟨(some 3), none, .box true 42003 4 (.t 1)⟩,
     ⟨(some 4), none, .alloc 42004 [(.int .u64 0), (.int .u64 0), (.int .u64 0), (.int .u64 0)]⟩])
   (.seq
    (.reg [⟨(some 8), none, .load 4 true (.t 3)⟩,
      ⟨(some 9), none, .load 4 true (.t 3)⟩,
      ⟨(some 10), none, .call 43 [(.t 8), (.t 9)]⟩,
      ⟨(some 7), none, .mv (.t 10)⟩,
      ⟨(some 11), none, .ext (.t 7) 0⟩,
      ⟨(some 12), none, .ext (.t 7) 1⟩,
      ⟨(some 5), none, .alloc 42005 [(.int .u64 0), (.int .u64 0), (.int .u64 0), (.int .u64 0)]⟩,
      ⟨none, none, .store 4 (.t 5) (.t 11)⟩,
      ⟨(some 6), none, .mv (.t 12)⟩])
    (.seq
     (.reg [⟨(some 13), none, .mv (.t 0)⟩,
       ⟨(some 14), none, .load 4 true (.t 5)⟩,
       ⟨(some 15), none, .mv (.t 6)⟩,
       ⟨(some 16), none, .call 45 [(.t 13), (.t 14), (.t 15)]⟩,
       ⟨none, none, .store 4 (.t 4) (.t 16)⟩])
     .ret)))
theorem fn42 : FnC P0 G0 [] 42 = some (17, [.cell 4 4 true], c42) := by kernel_rfl
/-- cartouche/words.Add -/
noncomputable def c43 : C :=
  (.seq
   (.reg [⟨(some 2), none, .box false 43002 4 (.t 0)⟩,
     ⟨(some 3), none, .box true 43003 4 (.t 1)⟩,
     ⟨(some 4), none, .alloc 43004 [(.int .u64 0), (.int .u64 0), (.int .u64 0), (.int .u64 0)]⟩,
     ⟨(some 5), none, .mv (.c (.int .u64 0))⟩])
   (.seq
    (.reg [⟨(some 6), none, .mv (.c (.int .u64 0))⟩])
    (.seq
     (.seq
      (.reg [⟨(some 8), none, .mv (.c (.int .i64 0))⟩])
      (.block 0
       (.loop
        (.seq
         (.reg [⟨(some 9), none, .bin .lss (.t 8) (.c (.int .i64 4))⟩])
         (.seq
          (.cond (.t 9)
           .skip
           (.exit 0))
          (.seq
           (.block 1
            (.seq
             (.reg [⟨(some 10), none, .mv (.t 8)⟩,
               ⟨(some 7), none, .mv (.t 10)⟩])
             (.reg [⟨(some 12), none, .mv (.t 7)⟩,
               ⟨(some 13), none, .mv (.t 7)⟩,
               ⟨(some 14), none, .idxP 4 1 (.t 2) (.t 13)⟩,
               ⟨(some 15), none, .load 1 false (.t 14)⟩,
               ⟨(some 16), none, .mv (.t 7)⟩,
               ⟨(some 17), none, .idxP 4 1 (.t 3) (.t 16)⟩,
               ⟨(some 18), none, .load 1 false (.t 17)⟩,
               ⟨(some 19), none, .mv (.t 6)⟩,
               ⟨(some 20), none, .carry false (.t 15) (.t 18) (.t 19)⟩,
               ⟨(some 11), none, .mv (.t 20)⟩,
               ⟨(some 21), none, .ext (.t 11) 0⟩,
               ⟨(some 22), none, .ext (.t 11) 1⟩,
               ⟨(some 23), none, .idxP 4 1 (.t 2) (.t 12)⟩,
               ⟨none, none, .store 1 (.t 23) (.t 21)⟩,
               ⟨(some 6), none, .mv (.t 22)⟩])))
           (.reg [⟨(some 24), none, .bin .add (.t 8) (.c (.int .i64 1))⟩,
             ⟨(some 8), none, .mv (.t 24)⟩])))))))
     (.seq
      (.reg [⟨(some 25), none, .load 4 true (.t 2)⟩,
        ⟨(some 26), none, .mv (.t 6)⟩,
        ⟨none, none, .store 4 (.t 4) (.t 25)⟩,
        ⟨(some 5), none, .mv (.t 26)⟩])
      .ret))))
theorem fn43 : FnC P0 G0 [2] 43 = some (27, [.cell 4 4 true, .t 5], c43) := by kernel_rfl
/-- (*cartouche/mod.Mod).low -/
noncomputable def c44 : C :=
  (.seq
   (.reg [⟨(some 3), none, .box true 44003 4 (.t 1)⟩,
     ⟨(some 4), none, .alloc 44004 [(.int .u64 0), (.int .u64 0), (.int .u64 0), (.int .u64 0)]⟩])
   (.seq
    (.seq
     (.reg [⟨(some 6), none, .load 4 true (.t 3)⟩,
       ⟨(some 7), none, .mv (.t 0)⟩,
       ⟨(some 8), none, .nck (.t 7)⟩,
       ⟨(some 9), none, .fldA 0 (.t 8)⟩,
       ⟨(some 10), none, .load 4 true (.t 9)⟩,
       ⟨(some 11), none, .call 65 [(.t 6), (.t 10)]⟩])
     (.cond (.t 11)
      (.seq
       (.reg [⟨(some 12), none, .load 4 true (.t 3)⟩,
         ⟨none, none, .store 4 (.t 4) (.t 12)⟩])
       .ret)
      .skip))
    (.seq
     (.reg [⟨(some 13), none, .load 4 true (.t 3)⟩,
       ⟨(some 14), none, .call 66 [(.t 13)]⟩,
       ⟨(some 5), none, .alloc 44005 [(.int .u8 0), (.int .u8 0), (.int .u8 0), (.int .u8 0), (.int .u8 0), (.int .u8 0), (.int .u8 0), (.int .u8 0), (.int .u8 0), (.int .u8 0), (.int .u8 0), (.int .u8 0), (.int .u8 0), (.int .u8 0), (.int .u8 0), (.int .u8 0), (.int .u8 0), (.int .u8 0), (.int .u8 0), (.int .u8 0), (.int .u8 0), (.int .u8 0), (.int .u8 0), (.int .u8 0), (.int .u8 0), (.int .u8 0), (.int .u8 0), (.int .u8 0), (.int .u8 0), (.int .u8 0), (.int .u8 0), (.int .u8 0)]⟩,
       ⟨none, none, .store 32 (.t 5) (.t 14)⟩])
     (.seq
      (.reg [⟨(some 15), none, .mv (.t 0)⟩,
        ⟨(some 16), none, .sliceP 32 1 (.t 5) none none⟩,
        ⟨(some 17), none, .call 30 [(.t 15), (.t 16)]⟩,
        ⟨none, none, .store 4 (.t 4) (.t 17)⟩])
      .ret))))
theorem fn44 : FnC P0 G0 [] 44 = some (18, [.cell 4 4 true], c44) := by kernel_rfl
/-- (*cartouche/mod.Mod).once -/
noncomputable def c45 : C :=
  (.seq
   (.reg [⟨(some 4), none, .box true 45004 4 (.t 1)⟩,
     ⟨(some 6), none, .alloc 45006 [(.int .u64 0), (.int .u64 0), (.int .u64 0), (.int .u64 0)]⟩])
   (.seq
    (.reg [⟨(some 10), none, .load 4 true (.t 4)⟩,
      ⟨(some 11), none, .mv (.t 0)⟩,
      ⟨(some 12), none, .nck (.t 11)⟩,
      ⟨(some 13), none, .fldA 0 (.t 12)⟩,
      ⟨(some 14), none, .load 4 true (.t 13)⟩,
      ⟨(some 15), none, .pcall [] 47 [(.t 10), (.t 14)]⟩,
      ⟨(some 9), none, .mv (.t 15)⟩,
      ⟨(some 16), none, .ext (.t 9) 0⟩,
      ⟨(some 17), none, .ext (.t 9) 1⟩,
      ⟨(some 7), none, .alloc 45007 [(.int .u64 0), (.int .u64 0), (.int .u64 0), (.int .u64 0)]⟩,
      ⟨none, none, .store 4 (.t 7) (.t 16)⟩,
      ⟨(some 8), none, .mv (.t 17)⟩])
    (.seq
     (.reg [⟨(some 18), none, .mv (.t 2)⟩,
       ⟨(some 19), none, .mv (.t 8)⟩,
       ⟨(some 20), none, .bin .sub (.c (.int .u64 1)) (.t 19)⟩,
       ⟨(some 21), none, .bin .or (.t 18) (.t 20)⟩,
       ⟨(some 22), none, .load 4 true (.t 7)⟩,
       ⟨(some 23), none, .load 4 true (.t 4)⟩,
       ⟨(some 24), none, .call 48 [(.t 21), (.t 22), (.t 23)]⟩,
       ⟨none, none, .store 4 (.t 6) (.t 24)⟩])
     .ret)))
theorem fn45 : FnC P0 G0 [] 45 = some (25, [.cell 6 4 true], c45) := by kernel_rfl
/-- (*cartouche/mod.Mod).mont -/
noncomputable def c46 : C :=
  (.seq
   (.reg [⟨(some 4), none, .box true 46004 4 (.t 1)⟩,
     ⟨(some 5), none, .box true 46005 4 (.t 2)⟩,
     ⟨(some 6), none, .alloc 46006 [(.int .u64 0), (.int .u64 0), (.int .u64 0), (.int .u64 0)]⟩])
   (.seq
    (.reg [⟨(some 7), none, .alloc 46007 [(.int .u64 0), (.int .u64 0), (.int .u64 0), (.int .u64 0), (.int .u64 0), (.int .u64 0)]⟩])
    (.seq
     (.seq
      (.reg [⟨(some 20), none, .mv (.c (.int .i64 0))⟩])
      (.block 0
       (.loop
        (.seq
         (.reg [⟨(some 21), none, .bin .lss (.t 20) (.c (.int .i64 4))⟩])
         (.seq
          (.cond (.t 21)
           .skip
           (.exit 0))
          (.seq
           (.block 1
            (.seq
             (.reg [⟨(some 22), none, .mv (.t 20)⟩,
               ⟨(some 8), none, .mv (.t 22)⟩])
             (.seq
              (.reg [⟨(some 9), none, .mv (.c (.int .u64 0))⟩,
                ⟨(some 10), none, .mv (.c (.int .u64 0))⟩])
              (.seq
               (.seq
                (.reg [⟨(some 23), none, .mv (.c (.int .i64 0))⟩])
                (.block 2
                 (.loop
                  (.seq
                   (.reg [⟨(some 24), none, .bin .lss (.t 23) (.c (.int .i64 4))⟩])
                   (.seq
                    (.cond (.t 24)
                     .skip
                     (.exit 2))
                    (.seq
                     (.block 3
                      (.seq
                       (.reg [⟨(some 25), none, .mv (.t 23)⟩,
                         ⟨(some 11), none, .mv (.t 25)⟩])
                       (.seq
                        (.reg [⟨(some 27), none, .mv (.t 11)⟩,
                          ⟨(some 28), none, .idxP 4 1 (.t 4) (.t 27)⟩,
                          ⟨(some 29), none, .load 1 false (.t 28)⟩,
                          ⟨(some 30), none, .mv (.t 8)⟩,
                          ⟨(some 31), none, .idxP 4 1 (.t 5) (.t 30)⟩,
                          ⟨(some 32), none, .load 1 false (.t 31)⟩,
                          ⟨(some 33), none, .call 54 [(.t 29), (.t 32)]⟩,
                          ⟨(some 26), none, .mv (.t 33)⟩,
                          ⟨(some 34), none, .ext (.t 26) 0⟩,
                          ⟨(some 35), none, .ext (.t 26) 1⟩,
                          ⟨(some 12), none, .mv (.t 34)⟩,
                          ⟨(some 13), none, .mv (.t 35)⟩])
                        (.seq
                         (.reg [⟨(some 37), none, .mv (.t 13)⟩,
                           ⟨(some 38), none, .mv (.t 11)⟩,
                           ⟨(some 39), none, .idxP 6 1 (.t 7) (.t 38)⟩,
                           ⟨(some 40), none, .load 1 false (.t 39)⟩,
                           ⟨(some 41), none, .carry false (.t 37) (.t 40) (.c (.int .u64 0))⟩,
                           ⟨(some 36), none, .mv (.t 41)⟩,
                           ⟨(some 42), none, .ext (.t 36) 0⟩,
                           ⟨(some 43), none, .ext (.t 36) 1⟩,
                           ⟨(some 13), none, .mv (.t 42)⟩,
                           ⟨(some 10), none, .mv (.t 43)⟩])
                         (.seq
                          (.reg [⟨(some 44), none, .mv (.t 12)⟩,
                            ⟨(some 45), none, .mv (.t 10)⟩,
                            ⟨(some 46), none, .bin .add (.t 44) (.t 45)⟩,
                            ⟨(some 12), none, .mv (.t 46)⟩])
                          (.seq
                           (.reg [⟨(some 48), none, .mv (.t 11)⟩,
                             ⟨(some 49), none, .mv (.t 13)⟩,
                             ⟨(some 50), none, .mv (.t 9)⟩,
                             ⟨(some 51), none, .carry false (.t 49) (.t 50) (.c (.int .u64 0))⟩,
                             ⟨(some 47), none, .mv (.t 51)⟩,
                             ⟨(some 52), none, .ext (.t 47) 0⟩,
                             ⟨(some 53), none, .ext (.t 47) 1⟩,
                             ⟨(some 54), none, .idxP 6 1 (.t 7) (.t 48)⟩,
                             ⟨none, none, .store 1 (.t 54) (.t 52)⟩,
                             ⟨(some 10), none, .mv (.t 53)⟩])
                           (.reg [⟨(some 55), none, .mv (.t 12)⟩,
                             ⟨(some 56), none, .mv (.t 10)⟩,
                             ⟨(some 57), none, .bin .add (.t 55) (.t 56)⟩,
                             ⟨(some 9), none, .mv (.t 57)⟩])))))))
                     (.reg [⟨(some 58), none, .bin .add (.t 23) (.c (.int .i64 1))⟩,
                       ⟨(some 23), none, .mv (.t 58)⟩])))))))
               (.seq
                (.reg [⟨(some 60), none, .idxP 6 1 (.t 7) (.c (.int .i64 4))⟩,
                  ⟨(some 61), none, .load 1 false (.t 60)⟩,
                  ⟨(some 62), none, .mv (.t 9)⟩,
                  ⟨(some 63), none, .carry false (.t 61) (.t 62) (.c (.int .u64 0))⟩,
                  ⟨(some 59), none, .mv (.t 63)⟩,
                  ⟨(some 64), none, .ext (.t 59) 0⟩,
                  ⟨(some 65), none, .ext (.t 59) 1⟩,
                  ⟨(some 66), none, .idxP 6 1 (.t 7) (.c (.int .i64 4))⟩,
                  ⟨none, none, .store 1 (.t 66) (.t 64)⟩,
                  ⟨(some 67), none, .idxP 6 1 (.t 7) (.c (.int .i64 5))⟩,
                  ⟨none, none, .store 1 (.t 67) (.t 65)⟩])
                (.seq
                 (.reg [⟨(some 68), none, .idxP 6 1 (.t 7) (.c (.int .i64 0))⟩,
                   ⟨(some 69), none, .load 1 false (.t 68)⟩,
                   ⟨(some 70), none, .mv (.t 0)⟩,
                   ⟨(some 71), none, .nck (.t 70)⟩,
                   ⟨(some 72), none, .fldA 4 (.t 71)⟩,
                   ⟨(some 73), none, .load 1 false (.t 72)⟩,
                   ⟨(some 74), none, .bin .mul (.t 69) (.t 73)⟩,
                   ⟨(some 14), none, .mv (.t 74)⟩])
                 (.seq
                  (.reg [⟨(some 76), none, .mv (.t 14)⟩,
                    ⟨(some 77), none, .mv (.t 0)⟩,
                    ⟨(some 78), none, .nck (.t 77)⟩,
                    ⟨(some 79), none, .fldA 0 (.t 78)⟩,
                    ⟨(some 80), none, .idxP 4 1 (.t 79) (.c (.int .i64 0))⟩,
                    ⟨(some 81), none, .load 1 false (.t 80)⟩,
                    ⟨(some 82), none, .call 54 [(.t 76), (.t 81)]⟩,
                    ⟨(some 75), none, .mv (.t 82)⟩,
                    ⟨(some 83), none, .ext (.t 75) 0⟩,
                    ⟨(some 84), none, .ext (.t 75) 1⟩,
                    ⟨(some 15), none, .mv (.t 83)⟩,
                    ⟨(some 16), none, .mv (.t 84)⟩])
                  (.seq
                   (.reg [⟨(some 86), none, .mv (.t 16)⟩,
                     ⟨(some 87), none, .idxP 6 1 (.t 7) (.c (.int .i64 0))⟩,
                     ⟨(some 88), none, .load 1 false (.t 87)⟩,
                     ⟨(some 89), none, .carry false (.t 86) (.t 88) (.c (.int .u64 0))⟩,
                     ⟨(some 85), none, .mv (.t 89)⟩,
                     ⟨(some 90), none, .ext (.t 85) 0⟩,
                     ⟨(some 91), none, .ext (.t 85) 1⟩,
                     ⟨(some 10), none, .mv (.t 91)⟩])
                   (.seq
                    (.reg [⟨(some 92), none, .mv (.t 15)⟩,
                      ⟨(some 93), none, .mv (.t 10)⟩,
                      ⟨(some 94), none, .bin .add (.t 92) (.t 93)⟩,
                      ⟨(some 9), none, .mv (.t 94)⟩])
                    (.seq
                     (.seq
                      (.reg [⟨(some 17), none, .mv (.c (.int .i64 1))⟩])
                      (.block 4
                       (.loop
                        (.seq
                         (.seq
                          (.reg [⟨(some 95), none, .mv (.t 17)⟩,
                            ⟨(some 96), none, .bin .lss (.t 95) (.c (.int .i64 4))⟩])
                          (.cond (.t 96)
                           .skip
                           (.exit 4)))
                         (.seq
                          (.block 5
                           (.seq
                            (.reg [⟨(some 100), none, .mv (.t 14)⟩,
                              ⟨(some 101), none, .mv (.t 0)⟩,
                              ⟨(some 102), none, .mv (.t 17)⟩,
                              ⟨(some 103), none, .nck (.t 101)⟩,
                              ⟨(some 104), none, .fldA 0 (.t 103)⟩,
                              ⟨(some 105), none, .idxP 4 1 (.t 104) (.t 102)⟩,
                              ⟨(some 106), none, .load 1 false (.t 105)⟩,
                              ⟨(some 107), none, .call 54 [(.t 100), (.t 106)]⟩,
                              ⟨(some 99), none, .mv (.t 107)⟩,
                              ⟨(some 108), none, .ext (.t 99) 0⟩,
                              ⟨(some 109), none, .ext (.t 99) 1⟩,
                              ⟨(some 18), none, .mv (.t 108)⟩,
                              ⟨(some 19), none, .mv (.t 109)⟩])
                            (.seq
                             (.reg [⟨(some 111), none, .mv (.t 19)⟩,
                               ⟨(some 112), none, .mv (.t 17)⟩,
                               ⟨(some 113), none, .idxP 6 1 (.t 7) (.t 112)⟩,
                               ⟨(some 114), none, .load 1 false (.t 113)⟩,
                               ⟨(some 115), none, .carry false (.t 111) (.t 114) (.c (.int .u64 0))⟩,
                               ⟨(some 110), none, .mv (.t 115)⟩,
                               ⟨(some 116), none, .ext (.t 110) 0⟩,
                               ⟨(some 117), none, .ext (.t 110) 1⟩,
                               ⟨(some 19), none, .mv (.t 116)⟩,
                               ⟨(some 10), none, .mv (.t 117)⟩])
                             (.seq
                              (.reg [⟨(some 118), none, .mv (.t 18)⟩,
                                ⟨(some 119), none, .mv (.t 10)⟩,
                                ⟨(some 120), none, .bin .add (.t 118) (.t 119)⟩,
                                ⟨(some 18), none, .mv (.t 120)⟩])
                              (.seq
                               (.reg [⟨(some 122), none, .mv (.t 17)⟩,
                                 ⟨(some 123), none, .bin .sub (.t 122) (.c (.int .i64 1))⟩,
                                 ⟨(some 124), none, .mv (.t 19)⟩,
                                 ⟨(some 125), none, .mv (.t 9)⟩,
                                 ⟨(some 126), none, .carry false (.t 124) (.t 125) (.c (.int .u64 0))⟩,
                                 ⟨(some 121), none, .mv (.t 126)⟩,
                                 ⟨(some 127), none, .ext (.t 121) 0⟩,
                                 ⟨(some 128), none, .ext (.t 121) 1⟩,
                                 ⟨(some 129), none, .idxP 6 1 (.t 7) (.t 123)⟩,
                                 ⟨none, none, .store 1 (.t 129) (.t 127)⟩,
                                 ⟨(some 10), none, .mv (.t 128)⟩])
                               (.reg [⟨(some 130), none, .mv (.t 18)⟩,
                                 ⟨(some 131), none, .mv (.t 10)⟩,
                                 ⟨(some 132), none, .bin .add (.t 130) (.t 131)⟩,
                                 ⟨(some 9), none, .mv (.t 132)⟩]))))))
                          (.reg [⟨(some 97), none, .mv (.t 17)⟩,
                            ⟨(some 98), none, .bin .add (.t 97) (.c (.int .i64 1))⟩,
                            ⟨(some 17), none, .mv (.t 98)⟩]))))))
                     (.seq
                      (.reg [⟨(some 134), none, .idxP 6 1 (.t 7) (.c (.int .i64 4))⟩,
                        ⟨(some 135), none, .load 1 false (.t 134)⟩,
                        ⟨(some 136), none, .mv (.t 9)⟩,
                        ⟨(some 137), none, .carry false (.t 135) (.t 136) (.c (.int .u64 0))⟩,
                        ⟨(some 133), none, .mv (.t 137)⟩,
                        ⟨(some 138), none, .ext (.t 133) 0⟩,
                        ⟨(some 139), none, .ext (.t 133) 1⟩,
                        ⟨(some 140), none, .idxP 6 1 (.t 7) (.c (.int .i64 3))⟩,
                        ⟨none, none, .store 1 (.t 140) (.t 138)⟩,
                        ⟨(some 10), none, .mv (.t 139)⟩])
                      (.reg [⟨(some 141), none, .idxP 6 1 (.t 7) (.c (.int .i64 5))⟩,
                        ⟨(some 142), none, .load 1 false (.t 141)⟩,
                        ⟨(some 143), none, .mv (.t 10)⟩,
                        ⟨(some 144), none, .bin .add (.t 142) (.t 143)⟩,
                        ⟨(some 145), none, .idxP 6 1 (.t 7) (.c (.int .i64 4))⟩,
                        ⟨none, none, .store 1 (.t 145) (.t 144)⟩]))))))))))))
           (.reg [⟨(some 146), none, .bin .add (.t 20) (.c (.int .i64 1))⟩,
             ⟨(some 20), none, .mv (.t 146)⟩])))))))
     (.seq
      (.reg [⟨(some 147), none, .mv (.t 0)⟩,
        ⟨(some 148), none, .idxP 6 1 (.t 7) (.c (.int .i64 0))⟩,
        ⟨(some 149), none, .load 1 false (.t 148)⟩,
        ⟨(some 150), none, .idxP 6 1 (.t 7) (.c (.int .i64 1))⟩,
        ⟨(some 151), none, .load 1 false (.t 150)⟩,
        ⟨(some 152), none, .idxP 6 1 (.t 7) (.c (.int .i64 2))⟩,
        ⟨(some 153), none, .load 1 false (.t 152)⟩,
        ⟨(some 154), none, .idxP 6 1 (.t 7) (.c (.int .i64 3))⟩,
        ⟨(some 155), none, .load 1 false (.t 154)⟩,
        ⟨(some 156), none, .build [(.int .u64 0), (.int .u64 0), (.int .u64 0), (.int .u64 0)] [(0, 1, (.t 149)), (1, 1, (.t 151)), (2, 1, (.t 153)), (3, 1, (.t 155))]⟩,
        ⟨(some 157), none, .idxP 6 1 (.t 7) (.c (.int .i64 4))⟩,
        ⟨(some 158), none, .load 1 false (.t 157)⟩,
        ⟨(some 159), none, .call 45 [(.t 147), (.t 156), (.t 158)]⟩,
        ⟨none, none, .store 4 (.t 6) (.t 159)⟩])
      .ret))))
theorem fn46 : FnC P0 G0 [] 46 = some (160, [.cell 6 4 true], c46) := by kernel_rfl
/-- cartouche/words.Sub -/
noncomputable def c47 : C :=
  (.seq
   (.reg [⟨(some 2), none, .box false 47002 4 (.t 0)⟩,
     ⟨(some 3), none, .box true 47003 4 (.t 1)⟩,
     ⟨(some 4), none, .alloc 47004 [(.int .u64 0), (.int .u64 0), (.int .u64 0), (.int .u64 0)]⟩,
     ⟨(some 5), none, .mv (.c (.int .u64 0))⟩])
   (.seq
    (.reg [⟨(some 6), none, .mv (.c (.int .u64 0))⟩])
    (.seq
     (.seq
      (.reg [⟨(some 8), none, .mv (.c (.int .i64 0))⟩])
      (.block 0
       (.loop
        (.seq
         (.reg [⟨(some 9), none, .bin .lss (.t 8) (.c (.int .i64 4))⟩])
         (.seq
          (.cond (.t 9)
           .skip
           (.exit 0))
          (.seq
           (.block 1
            (.seq
             (.reg [⟨(some 10), none, .mv (.t 8)⟩,
               ⟨(some 7), none, .mv (.t 10)⟩])
             (.reg [⟨(some 12), none, .mv (.t 7)⟩,
               ⟨(some 13), none, .mv (.t 7)⟩,
               ⟨(some 14), none, .idxP 4 1 (.t 2) (.t 13)⟩,
               ⟨(some 15), none, .load 1 false (.t 14)⟩,
               ⟨(some 16), none, .mv (.t 7)⟩,
               ⟨(some 17), none, .idxP 4 1 (.t 3) (.t 16)⟩,
               ⟨(some 18), none, .load 1 false (.t 17)⟩,
               ⟨(some 19), none, .mv (.t 6)⟩,
               ⟨(some 20), none, .carry true (.t 15) (.t 18) (.t 19)⟩,
               ⟨(some 11), none, .mv (.t 20)⟩,
               ⟨(some 21), none, .ext (.t 11) 0⟩,
               ⟨(some 22), none, .ext (.t 11) 1⟩,
               ⟨(some 23), none, .idxP 4 1 (.t 2) (.t 12)⟩,
               ⟨none, none, .store 1 (.t 23) (.t 21)⟩,
               ⟨(some 6), none, .mv (.t 22)⟩])))
           (.reg [⟨(some 24), none, .bin .add (.t 8) (.c (.int .i64 1))⟩,
             ⟨(some 8), none, .mv (.t 24)⟩])))))))
     (.seq
      (.reg [⟨(some 25), none, .load 4 true (.t 2)⟩,
        ⟨(some 26), none, .mv (.t 6)⟩,
        ⟨none, none, .store 4 (.t 4) (.t 25)⟩,
        ⟨(some 5), none, .mv (.t 26)⟩])
      .ret))))
theorem fn47 : FnC P0 G0 [2] 47 = some (27, [.cell 4 4 true, .t 5], c47) := by kernel_rfl
/-- cartouche/words.Pick -/
noncomputable def c48 : C :=
  (.seq
   (.reg [⟨(some 4), none, .box false 48004 4 (.t 1)⟩,
     ⟨(some 5), none, .box true 48005 4 (.t 2)⟩,
     ⟨(some 6), none, .alloc 48006 [(.int .u64 0), (.int .u64 0), (.int .u64 0), (.int .u64 0)]⟩])
   (.seq
    (.reg [⟨(some 9), none, .mv (.t 0)⟩,
      ⟨(some 10), none, .bin .and (.t 9) (.c (.int .u64 1))⟩,
      ⟨(some 11), none, .un .neg (.t 10)⟩,
      ⟨(some 7), none, .mv (.t 11)⟩])
    (.seq
     (.seq
      (.reg [⟨(some 12), none, .mv (.c (.int .i64 0))⟩])
      (.block 0
       (.loop
        (.seq
         (.reg [⟨(some 13), none, .bin .lss (.t 12) (.c (.int .i64 4))⟩])
         (.seq
          (.cond (.t 13)
           .skip
           (.exit 0))
          (.seq
           (.block 1
            (.seq
             (.reg [⟨(some 14), none, .mv (.t 12)⟩,
               ⟨(some 8), none, .mv (.t 14)⟩])
             (.reg [⟨(some 15), none, .mv (.t 8)⟩,
               ⟨(some 16), none, .mv (.t 8)⟩,
               ⟨(some 17), none, .idxP 4 1 (.t 4) (.t 16)⟩,
               ⟨(some 18), none, .load 1 false (.t 17)⟩,
               ⟨(some 19), none, .mv (.t 7)⟩,
               ⟨(some 20), none, .bin .and (.t 18) (.t 19)⟩,
               ⟨(some 21), none, .mv (.t 8)⟩,
               ⟨(some 22), none, .idxP 4 1 (.t 5) (.t 21)⟩,
               ⟨(some 23), none, .load 1 false (.t 22)⟩,
               ⟨(some 24), none, .mv (.t 7)⟩,
               ⟨(some 25), none, .bin .andNot (.t 23) (.t 24)⟩,
               ⟨(some 26), none, .bin .or (.t 20) (.t 25)⟩,
               ⟨(some 27), none, .idxP 4 1 (.t 4) (.t 15)⟩,
               ⟨none, none, .store 1 (.t 27) (.t 26)⟩])))
           (.reg [⟨(some 28), none, .bin .add (.t 12) (.c (.int .i64 1))⟩,
             ⟨(some 12), none, .mv (.t 28)⟩])))))))
     (.seq
      (.reg [⟨(some 29), none, .load 4 true (.t 4)⟩,
        ⟨none, none, .store 4 (.t 6) (.t 29)⟩])
      .ret))))
theorem fn48 : FnC P0 G0 [4] 48 = some (30, [.cell 6 4 true], c48) := by kernel_rfl
/-- cartouche/words.Bit -/
noncomputable def c49 : C :=
  (.seq
   (.reg [⟨(some 2), none, .box true 49002 4 (.t 0)⟩,
     ⟨(some 4), none, .mv (.c (.int .u64 0))⟩])
   (.seq
    (.seq
     (.reg [⟨(some 5), none, .mv (.t 1)⟩,
       ⟨(some 6), none, .bin .lss (.t 5) (.c (.int .i64 0))⟩,
       ⟨(some 7), none, .mv (.t 6)⟩,
       ⟨(some 8), (some (7, false)), .mv (.t 1)⟩,
       ⟨(some 9), (some (7, false)), .bin .gtr (.t 8) (.c (.int .i64 255))⟩,
       ⟨(some 10), none, .pick (.t 7) (.c (.bool true)) (.t 9)⟩])
     (.cond (.t 10)
      (.seq
       (.reg [⟨(some 4), none, .mv (.c (.int .u64 0))⟩])
       .ret)
      .skip))
    (.seq
     (.reg [⟨(some 11), none, .mv (.t 1)⟩,
       ⟨(some 12), none, .bin .quo (.t 11) (.c (.int .i64 64))⟩,
       ⟨(some 13), none, .idxP 4 1 (.t 2) (.t 12)⟩,
       ⟨(some 14), none, .load 1 false (.t 13)⟩,
       ⟨(some 15), none, .mv (.t 1)⟩,
       ⟨(some 16), none, .bin .rem (.t 15) (.c (.int .i64 64))⟩,
       ⟨(some 17), none, .shf .shr (.t 14) (.t 16)⟩,
       ⟨(some 18), none, .bin .and (.t 17) (.c (.int .u64 1))⟩,
       ⟨(some 4), none, .mv (.t 18)⟩])
     .ret)))
theorem fn49 : FnC P0 G0 [] 49 = some (19, [.t 4], c49) := by kernel_rfl
/-- cartouche/cartoucheref02.less -/
noncomputable def c50 : C :=
  (.seq
   (.reg [⟨(some 2), none, .box false 50002 4 (.t 0)⟩,
     ⟨(some 3), none, .box true 50003 4 (.t 1)⟩,
     ⟨(some 4), none, .alloc 50004 [(.int .u64 0), (.int .u64 0), (.int .u64 0), (.int .u64 0)]⟩])
   (.seq
    (.reg [⟨(some 5), none, .mv (.c (.int .u64 0))⟩])
    (.seq
     (.seq
      (.reg [⟨(some 6), none, .mv (.c (.int .i64 0))⟩])
      (.block 0
       (.loop
        (.seq
         (.seq
          (.reg [⟨(some 7), none, .mv (.t 6)⟩,
            ⟨(some 8), none, .bin .lss (.t 7) (.c (.int .i64 4))⟩])
          (.cond (.t 8)
           .skip
           (.exit 0)))
         (.seq
          (.block 1
           (.reg [⟨(some 12), none, .mv (.t 6)⟩,
             ⟨(some 13), none, .mv (.t 6)⟩,
             ⟨(some 14), none, .idxP 4 1 (.t 2) (.t 13)⟩,
             ⟨(some 15), none, .load 1 false (.t 14)⟩,
             ⟨(some 16), none, .mv (.t 6)⟩,
             ⟨(some 17), none, .idxP 4 1 (.t 3) (.t 16)⟩,
             ⟨(some 18), none, .load 1 false (.t 17)⟩,
             ⟨(some 19), none, .mv (.t 5)⟩,
             ⟨(some 20), none, .carry true (.t 15) (.t 18) (.t 19)⟩,
             ⟨(some 11), none, .mv (.t 20)⟩,
             ⟨(some 21), none, .ext (.t 11) 0⟩,
             ⟨(some 22), none, .ext (.t 11) 1⟩,
             ⟨(some 23), none, .idxP 4 1 (.t 2) (.t 12)⟩,
             ⟨none, none, .store 1 (.t 23) (.t 21)⟩,
             ⟨(some 5), none, .mv (.t 22)⟩]))
          (.reg [⟨(some 9), none, .mv (.t 6)⟩,
            ⟨(some 10), none, .bin .add (.t 9) (.c (.int .i64 1))⟩,
            ⟨(some 6), none, .mv (.t 10)⟩]))))))
     (.seq
      (.reg [⟨(some 24), none, .load 4 true (.t 2)⟩,
        ⟨none, none, .store 4 (.t 4) (.t 24)⟩])
      .ret))))
theorem fn50 : FnC P0 G0 [2] 50 = some (25, [.cell 4 4 true], c50) := by kernel_rfl
/-- cartouche/cartoucheref02.rem -/
noncomputable def c51 : C :=
  (.seq
   (.reg [⟨(some 2), none, .box true 51002 9 (.t 0)⟩,
     ⟨(some 3), none, .box true 51003 4 (.t 1)⟩,
     ⟨(some 4), none, .alloc 51004 [(.int .u64 0), (.int .u64 0), (.int .u64 0), (.int .u64 0)]⟩])
   (.seq
    (.reg [⟨(some 5), none, .mv (.c (.int .i64 4))⟩])
    (.seq
     (.block 0
      (.loop
       (.seq
        (.seq
         (.reg [⟨(some 24), none, .mv (.t 5)⟩,
           ⟨(some 25), none, .bin .gtr (.t 24) (.c (.int .i64 0))⟩,
           ⟨(some 26), none, .mv (.t 25)⟩,
           ⟨(some 27), (some (26, true)), .mv (.t 5)⟩,
           ⟨(some 28), (some (26, true)), .bin .sub (.t 27) (.c (.int .i64 1))⟩,
           ⟨(some 29), (some (26, true)), .idxP 4 1 (.t 3) (.t 28)⟩,
           ⟨(some 30), (some (26, true)), .load 1 false (.t 29)⟩,
           ⟨(some 31), (some (26, true)), .bin .eql (.t 30) (.c (.int .u64 0))⟩,
           ⟨(some 32), none, .pick (.t 26) (.t 31) (.c (.bool false))⟩])
         (.cond (.t 32)
          .skip
          (.exit 0)))
        (.block 1
         (.reg [⟨(some 33), none, .mv (.t 5)⟩,
           ⟨(some 34), none, .bin .sub (.t 33) (.c (.int .i64 1))⟩,
           ⟨(some 5), none, .mv (.t 34)⟩])))))
     (.seq
      (.seq
       (.reg [⟨(some 35), none, .mv (.t 5)⟩,
         ⟨(some 36), none, .bin .eql (.t 35) (.c (.int .i64 0))⟩])
       (.cond (.t 36)
        (.seq
         (.reg [⟨(some 37), none, .build [(.int .u64 0), (.int .u64 0), (.int .u64 0), (.int .u64 0)] []⟩,
           ⟨none, none, .store 4 (.t 4) (.t 37)⟩])
         .ret)
        .skip))
      (.seq
       (.reg [⟨(some 38), none, .mv (.t 5)⟩,
         ⟨(some 39), none, .bin .sub (.t 38) (.c (.int .i64 1))⟩,
         ⟨(some 40), none, .idxP 4 1 (.t 3) (.t 39)⟩,
         ⟨(some 41), none, .load 1 false (.t 40)⟩,
         ⟨(some 42), none, .call 68 [(.t 41)]⟩,
         ⟨(some 6), none, .mv (.t 42)⟩])
       (.seq
        (.reg [⟨(some 7), none, .alloc 51007 [(.int .u64 0), (.int .u64 0), (.int .u64 0), (.int .u64 0), (.int .u64 0)]⟩])
        (.seq
         (.reg [⟨(some 8), none, .alloc 51008 [(.int .u64 0), (.int .u64 0), (.int .u64 0), (.int .u64 0), (.int .u64 0), (.int .u64 0), (.int .u64 0), (.int .u64 0), (.int .u64 0), (.int .u64 0)]⟩])
         (.seq
          (.seq
           (.reg [⟨(some 9), none, .mv (.c (.int .i64 0))⟩])
           (.block 2
            (.loop
             (.seq
              (.seq
               (.reg [⟨(some 43), none, .mv (.t 9)⟩,
                 ⟨(some 44), none, .mv (.t 5)⟩,
                 ⟨(some 45), none, .bin .lss (.t 43) (.t 44)⟩])
               (.cond (.t 45)
                .skip
                (.exit 2)))
              (.seq
               (.block 3
                (.seq
                 (.reg [⟨(some 48), none, .mv (.t 9)⟩,
                   ⟨(some 49), none, .idxP 5 1 (.t 7) (.t 48)⟩,
                   ⟨(some 50), none, .load 1 false (.t 49)⟩,
                   ⟨(some 51), none, .mv (.t 9)⟩,
                   ⟨(some 52), none, .idxP 4 1 (.t 3) (.t 51)⟩,
                   ⟨(some 53), none, .load 1 false (.t 52)⟩,
                   ⟨(some 54), none, .mv (.t 6)⟩,
                   ⟨(some 55), none, .shf .shl (.t 53) (.t 54)⟩,
                   ⟨(some 56), none, .bin .add (.t 50) (.t 55)⟩,
                   ⟨(some 57), none, .idxP 5 1 (.t 7) (.t 48)⟩,
                   ⟨none, none, .store 1 (.t 57) (.t 56)⟩])
                 (.reg [⟨(some 58), none, .mv (.t 9)⟩,
                   ⟨(some 59), none, .bin .add (.t 58) (.c (.int .i64 1))⟩,
                   ⟨(some 60), none, .mv (.t 9)⟩,
                   ⟨(some 61), none, .idxP 4 1 (.t 3) (.t 60)⟩,
                   ⟨(some 62), none, .load 1 false (.t 61)⟩,
                   ⟨(some 63), none, .mv (.t 6)⟩,
                   ⟨(some 64), none, .bin .sub (.c (.int .i64 64)) (.t 63)⟩,
                   ⟨(some 65), none, .shf .shr (.t 62) (.t 64)⟩,
                   ⟨(some 66), none, .idxP 5 1 (.t 7) (.t 59)⟩,
                   ⟨none, none, .store 1 (.t 66) (.t 65)⟩])))
               (.reg [⟨(some 46), none, .mv (.t 9)⟩,
                 ⟨(some 47), none, .bin .add (.t 46) (.c (.int .i64 1))⟩,
                 ⟨(some 9), none, .mv (.t 47)⟩]))))))
          (.seq
           (.seq
            (.reg [⟨(some 10), none, .mv (.c (.int .i64 0))⟩])
            (.block 4
             (.loop
              (.seq
               (.seq
                (.reg [⟨(some 67), none, .mv (.t 10)⟩,
                  ⟨(some 68), none, .bin .lss (.t 67) (.c (.int .i64 9))⟩])
                (.cond (.t 68)
                 .skip
                 (.exit 4)))
               (.seq
                (.block 5
                 (.seq
                  (.reg [⟨(some 71), none, .mv (.t 10)⟩,
                    ⟨(some 72), none, .idxP 10 1 (.t 8) (.t 71)⟩,
                    ⟨(some 73), none, .load 1 false (.t 72)⟩,
                    ⟨(some 74), none, .mv (.t 10)⟩,
                    ⟨(some 75), none, .idxP 9 1 (.t 2) (.t 74)⟩,
                    ⟨(some 76), none, .load 1 false (.t 75)⟩,
                    ⟨(some 77), none, .mv (.t 6)⟩,
                    ⟨(some 78), none, .shf .shl (.t 76) (.t 77)⟩,
                    ⟨(some 79), none, .bin .add (.t 73) (.t 78)⟩,
                    ⟨(some 80), none, .idxP 10 1 (.t 8) (.t 71)⟩,
                    ⟨none, none, .store 1 (.t 80) (.t 79)⟩])
                  (.reg [⟨(some 81), none, .mv (.t 10)⟩,
                    ⟨(some 82), none, .bin .add (.t 81) (.c (.int .i64 1))⟩,
                    ⟨(some 83), none, .mv (.t 10)⟩,
                    ⟨(some 84), none, .idxP 9 1 (.t 2) (.t 83)⟩,
                    ⟨(some 85), none, .load 1 false (.t 84)⟩,
                    ⟨(some 86), none, .mv (.t 6)⟩,
                    ⟨(some 87), none, .bin .sub (.c (.int .i64 64)) (.t 86)⟩,
                    ⟨(some 88), none, .shf .shr (.t 85) (.t 87)⟩,
                    ⟨(some 89), none, .idxP 10 1 (.t 8) (.t 82)⟩,
                    ⟨none, none, .store 1 (.t 89) (.t 88)⟩])))
                (.reg [⟨(some 69), none, .mv (.t 10)⟩,
                  ⟨(some 70), none, .bin .add (.t 69) (.c (.int .i64 1))⟩,
                  ⟨(some 10), none, .mv (.t 70)⟩]))))))
           (.seq
            (.seq
             (.reg [⟨(some 90), none, .mv (.t 5)⟩,
               ⟨(some 91), none, .bin .sub (.c (.int .i64 9)) (.t 90)⟩,
               ⟨(some 11), none, .mv (.t 91)⟩])
             (.block 6
              (.loop
               (.seq
                (.seq
                 (.reg [⟨(some 92), none, .mv (.t 11)⟩,
                   ⟨(some 93), none, .bin .geq (.t 92) (.c (.int .i64 0))⟩])
                 (.cond (.t 93)
                  .skip
                  (.exit 6)))
                (.seq
                 (.block 7
                  (.seq
                   (.reg [⟨(some 12), none, .mv (.c (.int .u64 18446744073709551615))⟩])
                   (.seq
                    (.seq
                     (.reg [⟨(some 96), none, .mv (.t 11)⟩,
                       ⟨(some 97), none, .mv (.t 5)⟩,
                       ⟨(some 98), none, .bin .add (.t 96) (.t 97)⟩,
                       ⟨(some 99), none, .idxP 10 1 (.t 8) (.t 98)⟩,
                       ⟨(some 100), none, .load 1 false (.t 99)⟩,
                       ⟨(some 101), none, .mv (.t 5)⟩,
                       ⟨(some 102), none, .bin .sub (.t 101) (.c (.int .i64 1))⟩,
                       ⟨(some 103), none, .idxP 5 1 (.t 7) (.t 102)⟩,
                       ⟨(some 104), none, .load 1 false (.t 103)⟩,
                       ⟨(some 105), none, .bin .lss (.t 100) (.t 104)⟩])
                     (.cond (.t 105)
                      (.reg [⟨(some 107), none, .mv (.t 11)⟩,
                        ⟨(some 108), none, .mv (.t 5)⟩,
                        ⟨(some 109), none, .bin .add (.t 107) (.t 108)⟩,
                        ⟨(some 110), none, .idxP 10 1 (.t 8) (.t 109)⟩,
                        ⟨(some 111), none, .load 1 false (.t 110)⟩,
                        ⟨(some 112), none, .mv (.t 11)⟩,
                        ⟨(some 113), none, .mv (.t 5)⟩,
                        ⟨(some 114), none, .bin .add (.t 112) (.t 113)⟩,
                        ⟨(some 115), none, .bin .sub (.t 114) (.c (.int .i64 1))⟩,
                        ⟨(some 116), none, .idxP 10 1 (.t 8) (.t 115)⟩,
                        ⟨(some 117), none, .load 1 false (.t 116)⟩,
                        ⟨(some 118), none, .mv (.t 5)⟩,
                        ⟨(some 119), none, .bin .sub (.t 118) (.c (.int .i64 1))⟩,
                        ⟨(some 120), none, .idxP 5 1 (.t 7) (.t 119)⟩,
                        ⟨(some 121), none, .load 1 false (.t 120)⟩,
                        ⟨(some 122), none, .call 69 [(.t 111), (.t 117), (.t 121)]⟩,
                        ⟨(some 106), none, .mv (.t 122)⟩,
                        ⟨(some 123), none, .ext (.t 106) 0⟩,
                        ⟨(some 124), none, .ext (.t 106) 1⟩,
                        ⟨(some 12), none, .mv (.t 123)⟩])
                      .skip))
                    (.seq
                     (.reg [⟨(some 13), none, .mv (.c (.int .u64 0))⟩,
                       ⟨(some 14), none, .mv (.c (.int .u64 0))⟩])
                     (.seq
                      (.seq
                       (.reg [⟨(some 15), none, .mv (.c (.int .i64 0))⟩])
                       (.block 8
                        (.loop
                         (.seq
                          (.seq
                           (.reg [⟨(some 125), none, .mv (.t 15)⟩,
                             ⟨(some 126), none, .mv (.t 5)⟩,
                             ⟨(some 127), none, .bin .lss (.t 125) (.t 126)⟩])
                           (.cond (.t 127)
                            .skip
                            (.exit 8)))
                          (.seq
                           (.block 9
                            (.seq
                             (.reg [⟨(some 131), none, .mv (.t 12)⟩,
                               ⟨(some 132), none, .mv (.t 15)⟩,
                               ⟨(some 133), none, .idxP 5 1 (.t 7) (.t 132)⟩,
                               ⟨(some 134), none, .load 1 false (.t 133)⟩,
                               ⟨(some 135), none, .call 54 [(.t 131), (.t 134)]⟩,
                               ⟨(some 130), none, .mv (.t 135)⟩,
                               ⟨(some 136), none, .ext (.t 130) 0⟩,
                               ⟨(some 137), none, .ext (.t 130) 1⟩,
                               ⟨(some 16), none, .mv (.t 136)⟩,
                               ⟨(some 17), none, .mv (.t 137)⟩])
                             (.seq
                              (.reg [⟨(some 139), none, .mv (.t 17)⟩,
                                ⟨(some 140), none, .mv (.t 14)⟩,
                                ⟨(some 141), none, .carry false (.t 139) (.t 140) (.c (.int .u64 0))⟩,
                                ⟨(some 138), none, .mv (.t 141)⟩,
                                ⟨(some 142), none, .ext (.t 138) 0⟩,
                                ⟨(some 143), none, .ext (.t 138) 1⟩,
                                ⟨(some 18), none, .mv (.t 142)⟩,
                                ⟨(some 19), none, .mv (.t 143)⟩])
                              (.seq
                               (.reg [⟨(some 144), none, .mv (.t 16)⟩,
                                 ⟨(some 145), none, .mv (.t 19)⟩,
                                 ⟨(some 146), none, .bin .add (.t 144) (.t 145)⟩,
                                 ⟨(some 14), none, .mv (.t 146)⟩])
                               (.reg [⟨(some 148), none, .mv (.t 11)⟩,
                                 ⟨(some 149), none, .mv (.t 15)⟩,
                                 ⟨(some 150), none, .bin .add (.t 148) (.t 149)⟩,
                                 ⟨(some 151), none, .mv (.t 11)⟩,
                                 ⟨(some 152), none, .mv (.t 15)⟩,
                                 ⟨(some 153), none, .bin .add (.t 151) (.t 152)⟩,
                                 ⟨(some 154), none, .idxP 10 1 (.t 8) (.t 153)⟩,
                                 ⟨(some 155), none, .load 1 false (.t 154)⟩,
                                 ⟨(some 156), none, .mv (.t 18)⟩,
                                 ⟨(some 157), none, .mv (.t 13)⟩,
                                 ⟨(some 158), none, .carry true (.t 155) (.t 156) (.t 157)⟩,
                                 ⟨(some 147), none, .mv (.t 158)⟩,
                                 ⟨(some 159), none, .ext (.t 147) 0⟩,
                                 ⟨(some 160), none, .ext (.t 147) 1⟩,
                                 ⟨(some 161), none, .idxP 10 1 (.t 8) (.t 150)⟩,
                                 ⟨none, none, .store 1 (.t 161) (.t 159)⟩,
                                 ⟨(some 13), none, .mv (.t 160)⟩])))))
                           (.reg [⟨(some 128), none, .mv (.t 15)⟩,
                             ⟨(some 129), none, .bin .add (.t 128) (.c (.int .i64 1))⟩,
                             ⟨(some 15), none, .mv (.t 129)⟩]))))))
                      (.seq
                       (.reg [⟨(some 163), none, .mv (.t 11)⟩,
                         ⟨(some 164), none, .mv (.t 5)⟩,
                         ⟨(some 165), none, .bin .add (.t 163) (.t 164)⟩,
                         ⟨(some 166), none, .mv (.t 11)⟩,
                         ⟨(some 167), none, .mv (.t 5)⟩,
                         ⟨(some 168), none, .bin .add (.t 166) (.t 167)⟩,
                         ⟨(some 169), none, .idxP 10 1 (.t 8) (.t 168)⟩,
                         ⟨(some 170), none, .load 1 false (.t 169)⟩,
                         ⟨(some 171), none, .mv (.t 14)⟩,
                         ⟨(some 172), none, .mv (.t 13)⟩,
                         ⟨(some 173), none, .carry true (.t 170) (.t 171) (.t 172)⟩,
                         ⟨(some 162), none, .mv (.t 173)⟩,
                         ⟨(some 174), none, .ext (.t 162) 0⟩,
                         ⟨(some 175), none, .ext (.t 162) 1⟩,
                         ⟨(some 176), none, .idxP 10 1 (.t 8) (.t 165)⟩,
                         ⟨none, none, .store 1 (.t 176) (.t 174)⟩,
                         ⟨(some 13), none, .mv (.t 175)⟩])
                       (.block 10
                        (.loop
                         (.seq
                          (.seq
                           (.reg [⟨(some 177), none, .mv (.t 13)⟩,
                             ⟨(some 178), none, .bin .gtr (.t 177) (.c (.int .u64 0))⟩])
                           (.cond (.t 178)
                            .skip
                            (.exit 10)))
                          (.block 11
                           (.seq
                            (.reg [⟨(some 20), none, .mv (.c (.int .u64 0))⟩])
                            (.seq
                             (.seq
                              (.reg [⟨(some 21), none, .mv (.c (.int .i64 0))⟩])
                              (.block 12
                               (.loop
                                (.seq
                                 (.seq
                                  (.reg [⟨(some 179), none, .mv (.t 21)⟩,
                                    ⟨(some 180), none, .mv (.t 5)⟩,
                                    ⟨(some 181), none, .bin .lss (.t 179) (.t 180)⟩])
                                  (.cond (.t 181)
                                   .skip
                                   (.exit 12)))
                                 (.seq
                                  (.block 13
                                   (.reg [⟨(some 185), none, .mv (.t 11)⟩,
                                     ⟨(some 186), none, .mv (.t 21)⟩,
                                     ⟨(some 187), none, .bin .add (.t 185) (.t 186)⟩,
                                     ⟨(some 188), none, .mv (.t 11)⟩,
                                     ⟨(some 189), none, .mv (.t 21)⟩,
                                     ⟨(some 190), none, .bin .add (.t 188) (.t 189)⟩,
                                     ⟨(some 191), none, .idxP 10 1 (.t 8) (.t 190)⟩,
                                     ⟨(some 192), none, .load 1 false (.t 191)⟩,
                                     ⟨(some 193), none, .mv (.t 21)⟩,
                                     ⟨(some 194), none, .idxP 5 1 (.t 7) (.t 193)⟩,
                                     ⟨(some 195), none, .load 1 false (.t 194)⟩,
                                     ⟨(some 196), none, .mv (.t 20)⟩,
                                     ⟨(some 197), none, .carry false (.t 192) (.t 195) (.t 196)⟩,
                                     ⟨(some 184), none, .mv (.t 197)⟩,
                                     ⟨(some 198), none, .ext (.t 184) 0⟩,
                                     ⟨(some 199), none, .ext (.t 184) 1⟩,
                                     ⟨(some 200), none, .idxP 10 1 (.t 8) (.t 187)⟩,
                                     ⟨none, none, .store 1 (.t 200) (.t 198)⟩,
                                     ⟨(some 20), none, .mv (.t 199)⟩]))
                                  (.reg [⟨(some 182), none, .mv (.t 21)⟩,
                                    ⟨(some 183), none, .bin .add (.t 182) (.c (.int .i64 1))⟩,
                                    ⟨(some 21), none, .mv (.t 183)⟩]))))))
                             (.seq
                              (.reg [⟨(some 202), none, .mv (.t 11)⟩,
                                ⟨(some 203), none, .mv (.t 5)⟩,
                                ⟨(some 204), none, .bin .add (.t 202) (.t 203)⟩,
                                ⟨(some 205), none, .mv (.t 11)⟩,
                                ⟨(some 206), none, .mv (.t 5)⟩,
                                ⟨(some 207), none, .bin .add (.t 205) (.t 206)⟩,
                                ⟨(some 208), none, .idxP 10 1 (.t 8) (.t 207)⟩,
                                ⟨(some 209), none, .load 1 false (.t 208)⟩,
                                ⟨(some 210), none, .mv (.t 20)⟩,
                                ⟨(some 211), none, .carry false (.t 209) (.c (.int .u64 0)) (.t 210)⟩,
                                ⟨(some 201), none, .mv (.t 211)⟩,
                                ⟨(some 212), none, .ext (.t 201) 0⟩,
                                ⟨(some 213), none, .ext (.t 201) 1⟩,
                                ⟨(some 214), none, .idxP 10 1 (.t 8) (.t 204)⟩,
                                ⟨none, none, .store 1 (.t 214) (.t 212)⟩,
                                ⟨(some 20), none, .mv (.t 213)⟩])
                              (.reg [⟨(some 215), none, .mv (.t 13)⟩,
                                ⟨(some 216), none, .mv (.t 20)⟩,
                                ⟨(some 217), none, .bin .sub (.t 215) (.t 216)⟩,
                                ⟨(some 13), none, .mv (.t 217)⟩]))))))))))))))
                 (.reg [⟨(some 94), none, .mv (.t 11)⟩,
                   ⟨(some 95), none, .bin .sub (.t 94) (.c (.int .i64 1))⟩,
                   ⟨(some 11), none, .mv (.t 95)⟩]))))))
            (.seq
             (.reg [⟨(some 22), none, .alloc 51022 [(.int .u64 0), (.int .u64 0), (.int .u64 0), (.int .u64 0)]⟩])
             (.seq
              (.seq
               (.reg [⟨(some 23), none, .mv (.c (.int .i64 0))⟩])
               (.block 14
                (.loop
                 (.seq
                  (.seq
                   (.reg [⟨(some 218), none, .mv (.t 23)⟩,
                     ⟨(some 219), none, .mv (.t 5)⟩,
                     ⟨(some 220), none, .bin .lss (.t 218) (.t 219)⟩])
                   (.cond (.t 220)
                    .skip
                    (.exit 14)))
                  (.seq
                   (.block 15
                    (.reg [⟨(some 223), none, .mv (.t 23)⟩,
                      ⟨(some 224), none, .mv (.t 23)⟩,
                      ⟨(some 225), none, .idxP 10 1 (.t 8) (.t 224)⟩,
                      ⟨(some 226), none, .load 1 false (.t 225)⟩,
                      ⟨(some 227), none, .mv (.t 6)⟩,
                      ⟨(some 228), none, .shf .shr (.t 226) (.t 227)⟩,
                      ⟨(some 229), none, .mv (.t 23)⟩,
                      ⟨(some 230), none, .bin .add (.t 229) (.c (.int .i64 1))⟩,
                      ⟨(some 231), none, .idxP 10 1 (.t 8) (.t 230)⟩,
                      ⟨(some 232), none, .load 1 false (.t 231)⟩,
                      ⟨(some 233), none, .mv (.t 6)⟩,
                      ⟨(some 234), none, .bin .sub (.c (.int .i64 64)) (.t 233)⟩,
                      ⟨(some 235), none, .shf .shl (.t 232) (.t 234)⟩,
                      ⟨(some 236), none, .bin .add (.t 228) (.t 235)⟩,
                      ⟨(some 237), none, .idxP 4 1 (.t 22) (.t 223)⟩,
                      ⟨none, none, .store 1 (.t 237) (.t 236)⟩]))
                   (.reg [⟨(some 221), none, .mv (.t 23)⟩,
                     ⟨(some 222), none, .bin .add (.t 221) (.c (.int .i64 1))⟩,
                     ⟨(some 23), none, .mv (.t 222)⟩]))))))
              (.seq
               (.reg [⟨(some 238), none, .load 4 true (.t 22)⟩,
                 ⟨none, none, .store 4 (.t 4) (.t 238)⟩])
               .ret)))))))))))))
theorem fn51 : FnC P0 G0 [] 51 = some (239, [.cell 4 4 true], c51) := by kernel_rfl
/-- cartouche/cartoucheref02.Neg -/
noncomputable def c53 : C :=
  (.seq
   (.reg [⟨(some 2), none, .box true 53002 4 (.t 0)⟩,
     ⟨(some 3), none, .box true 53003 4 (.t 1)⟩,
     ⟨(some 4), none, .alloc 53004 [(.int .u64 0), (.int .u64 0), (.int .u64 0), (.int .u64 0)]⟩])
   (.seq
    (.reg [⟨(some 6), none, .load 4 true (.t 2)⟩,
      ⟨(some 7), none, .load 4 true (.t 3)⟩,
      ⟨(some 8), none, .call 25 [(.t 6), (.t 7)]⟩,
      ⟨(some 5), none, .alloc 53005 [(.int .u64 0), (.int .u64 0), (.int .u64 0), (.int .u64 0)]⟩,
      ⟨none, none, .store 4 (.t 5) (.t 8)⟩])
    (.seq
     (.seq
      (.reg [⟨(some 9), none, .load 4 true (.t 5)⟩,
        ⟨(some 10), none, .build [(.int .u64 0), (.int .u64 0), (.int .u64 0), (.int .u64 0)] []⟩,
        ⟨(some 11), none, .eqc false 4 [(0, .int), (1, .int), (2, .int), (3, .int)] (.t 9) (.t 10)⟩])
      (.cond (.t 11)
       (.seq
        (.reg [⟨(some 12), none, .load 4 true (.t 5)⟩,
          ⟨none, none, .store 4 (.t 4) (.t 12)⟩])
        .ret)
       .skip))
     (.seq
      (.reg [⟨(some 13), none, .load 4 true (.t 3)⟩,
        ⟨(some 14), none, .load 4 true (.t 5)⟩,
        ⟨(some 15), none, .call 50 [(.t 13), (.t 14)]⟩,
        ⟨none, none, .store 4 (.t 4) (.t 15)⟩])
      .ret))))
theorem fn53 : FnC P0 G0 [] 53 = some (16, [.cell 4 4 true], c53) := by kernel_rfl
/-- math/bits.Mul64 -/
noncomputable def c54 : C :=
  (.seq
   (.reg [⟨(some 4), none, .mv (.c (.int .u64 0))⟩,
     ⟨(some 5), none, .mv (.c (.int .u64 0))⟩])
   (.seq
    (.reg [⟨(some 14), none, .mv (.t 0)⟩,
      ⟨(some 15), none, .bin .and (.t 14) (.c (.int .u64 4294967295))⟩,
      ⟨(some 6), none, .mv (.t 15)⟩])
    (.seq
     (.reg [⟨(some 16), none, .mv (.t 0)⟩,
       ⟨(some 17), none, .shf .shr (.t 16) (.c (.int .u64 32))⟩,
       ⟨(some 7), none, .mv (.t 17)⟩])
     (.seq
      (.reg [⟨(some 18), none, .mv (.t 1)⟩,
        ⟨(some 19), none, .bin .and (.t 18) (.c (.int .u64 4294967295))⟩,
        ⟨(some 8), none, .mv (.t 19)⟩])
      (.seq
       (.reg [⟨(some 20), none, .mv (.t 1)⟩,
         ⟨(some 21), none, .shf .shr (.t 20) (.c (.int .u64 32))⟩,
         ⟨(some 9), none, .mv (.t 21)⟩])
       (.seq
        (.reg [⟨(some 22), none, .mv (.t 6)⟩,
          ⟨(some 23), none, .mv (.t 8)⟩,
          ⟨(some 24), none, .bin .mul (.t 22) (.t 23)⟩,
          ⟨(some 10), none, .mv (.t 24)⟩])
        (.seq
         (.reg [⟨(some 25), none, .mv (.t 7)⟩,
           ⟨(some 26), none, .mv (.t 8)⟩,
           ⟨(some 27), none, .bin .mul (.t 25) (.t 26)⟩,
           ⟨(some 28), none, .mv (.t 10)⟩,
           ⟨(some 29), none, .shf .shr (.t 28) (.c (.int .u64 32))⟩,
           ⟨(some 30), none, .bin .add (.t 27) (.t 29)⟩,
           ⟨(some 11), none, .mv (.t 30)⟩])
         (.seq
          (.reg [⟨(some 31), none, .mv (.t 11)⟩,
            ⟨(some 32), none, .bin .and (.t 31) (.c (.int .u64 4294967295))⟩,
            ⟨(some 12), none, .mv (.t 32)⟩])
          (.seq
           (.reg [⟨(some 33), none, .mv (.t 11)⟩,
             ⟨(some 34), none, .shf .shr (.t 33) (.c (.int .u64 32))⟩,
             ⟨(some 13), none, .mv (.t 34)⟩])
           (.seq
            (.reg [⟨(some 35), none, .mv (.t 12)⟩,
              ⟨(some 36), none, .mv (.t 6)⟩,
              ⟨(some 37), none, .mv (.t 9)⟩,
              ⟨(some 38), none, .bin .mul (.t 36) (.t 37)⟩,
              ⟨(some 39), none, .bin .add (.t 35) (.t 38)⟩,
              ⟨(some 12), none, .mv (.t 39)⟩])
            (.seq
             (.reg [⟨(some 40), none, .mv (.t 7)⟩,
               ⟨(some 41), none, .mv (.t 9)⟩,
               ⟨(some 42), none, .bin .mul (.t 40) (.t 41)⟩,
               ⟨(some 43), none, .mv (.t 13)⟩,
               ⟨(some 44), none, .bin .add (.t 42) (.t 43)⟩,
               ⟨(some 45), none, .mv (.t 12)⟩,
               ⟨(some 46), none, .shf .shr (.t 45) (.c (.int .u64 32))⟩,
               ⟨(some 47), none, .bin .add (.t 44) (.t 46)⟩,
               ⟨(some 4), none, .mv (.t 47)⟩])
             (.seq
              (.reg [⟨(some 48), none, .mv (.t 0)⟩,
                ⟨(some 49), none, .mv (.t 1)⟩,
                ⟨(some 50), none, .bin .mul (.t 48) (.t 49)⟩,
                ⟨(some 5), none, .mv (.t 50)⟩])
              .ret))))))))))))
theorem fn54 : FnC P0 G0 [] 54 = some (51, [.t 4, .t 5], c54) := by kernel_rfl
/-- cartouche/cartoucheref01.Num -/
noncomputable def c55 : C :=
  (.seq
   (.reg [⟨(some 1), none, .box true 55001 16 (.t 0)⟩,
     ⟨(some 2), none, .alloc 55002 [(.int .u64 0), (.int .u64 0), (.int .u64 0), (.int .u64 0)]⟩])
   (.seq
    (.reg [⟨(some 3), none, .alloc 55003 [(.int .u64 0), (.int .u64 0), (.int .u64 0), (.int .u64 0)]⟩])
    (.seq
     (.seq
      (.reg [⟨(some 4), none, .mv (.c (.int .i64 0))⟩])
      (.block 0
       (.loop
        (.seq
         (.seq
          (.reg [⟨(some 5), none, .mv (.t 4)⟩,
            ⟨(some 6), none, .bin .lss (.t 5) (.c (.int .i64 16))⟩])
          (.cond (.t 6)
           .skip
           (.exit 0)))
         (.seq
          (.block 1
           (.reg [⟨(some 9), none, .mv (.t 4)⟩,
             ⟨(some 10), none, .bin .quo (.t 9) (.c (.int .i64 4))⟩,
             ⟨(some 11), none, .mv (.t 4)⟩,
             ⟨(some 12), none, .bin .quo (.t 11) (.c (.int .i64 4))⟩,
             ⟨(some 13), none, .idxP 4 1 (.t 3) (.t 12)⟩,
             ⟨(some 14), none, .load 1 false (.t 13)⟩,
             ⟨(some 15), none, .mv (.t 4)⟩,
             ⟨(some 16), none, .idxP 16 1 (.t 1) (.t 15)⟩,
             ⟨(some 17), none, .load 1 false (.t 16)⟩,
             ⟨(some 18), none, .cvt .u64 (.t 17)⟩,
             ⟨(some 19), none, .mv (.t 4)⟩,
             ⟨(some 20), none, .bin .rem (.t 19) (.c (.int .i64 4))⟩,
             ⟨(some 21), none, .bin .mul (.c (.int .i64 16)) (.t 20)⟩,
             ⟨(some 22), none, .shf .shl (.t 18) (.t 21)⟩,
             ⟨(some 23), none, .bin .add (.t 14) (.t 22)⟩,
             ⟨(some 24), none, .idxP 4 1 (.t 3) (.t 10)⟩,
             ⟨none, none, .store 1 (.t 24) (.t 23)⟩]))
          (.reg [⟨(some 7), none, .mv (.t 4)⟩,
            ⟨(some 8), none, .bin .add (.t 7) (.c (.int .i64 1))⟩,
            ⟨(some 4), none, .mv (.t 8)⟩]))))))
     (.seq
      (.reg [⟨(some 25), none, .load 4 true (.t 3)⟩,
        ⟨none, none, .store 4 (.t 2) (.t 25)⟩])
      .ret))))
theorem fn55 : FnC P0 G0 [] 55 = some (26, [.cell 2 4 true], c55) := by kernel_rfl
/-- cartouche/words.Less -/
noncomputable def c65 : C :=
  (.seq
   (.reg [⟨(some 2), none, .box true 65002 4 (.t 0)⟩,
     ⟨(some 3), none, .box true 65003 4 (.t 1)⟩,
     ⟨(some 4), none, .mv (.c (.bool false))⟩])
   (.seq
    (.reg [⟨(some 8), none, .load 4 true (.t 2)⟩,
      ⟨(some 9), none, .load 4 true (.t 3)⟩,
      ⟨(some 10), none, .call 47 [(.t 8), (.t 9)]⟩,
      ⟨(some 7), none, .mv (.t 10)⟩,
      ⟨(some 11), none, .ext (.t 7) 0⟩,
      ⟨(some 12), none, .ext (.t 7) 1⟩,
      ⟨(some 5), none, .alloc 65005 [(.int .u64 0), (.int .u64 0), (.int .u64 0), (.int .u64 0)]⟩,
      ⟨none, none, .store 4 (.t 5) (.t 11)⟩,
      ⟨(some 6), none, .mv (.t 12)⟩])
    (.seq
     (.reg [⟨(some 13), none, .mv (.t 6)⟩,
       ⟨(some 14), none, .bin .eql (.t 13) (.c (.int .u64 1))⟩,
       ⟨(some 4), none, .mv (.t 14)⟩])
     .ret)))
theorem fn65 : FnC P0 G0 [] 65 = some (15, [.t 4], c65) := by kernel_rfl
/-- cartouche/words.Bytes -/
noncomputable def c66 : C :=
  (.seq
   (.reg [⟨(some 1), none, .box true 66001 4 (.t 0)⟩,
     ⟨(some 2), none, .alloc 66002 [(.int .u8 0), (.int .u8 0), (.int .u8 0), (.int .u8 0), (.int .u8 0), (.int .u8 0), (.int .u8 0), (.int .u8 0), (.int .u8 0), (.int .u8 0), (.int .u8 0), (.int .u8 0), (.int .u8 0), (.int .u8 0), (.int .u8 0), (.int .u8 0), (.int .u8 0), (.int .u8 0), (.int .u8 0), (.int .u8 0), (.int .u8 0), (.int .u8 0), (.int .u8 0), (.int .u8 0), (.int .u8 0), (.int .u8 0), (.int .u8 0), (.int .u8 0), (.int .u8 0), (.int .u8 0), (.int .u8 0), (.int .u8 0)]⟩])
   (.seq
    (.reg [⟨(some 3), none, .alloc 66003 [(.int .u8 0), (.int .u8 0), (.int .u8 0), (.int .u8 0), (.int .u8 0), (.int .u8 0), (.int .u8 0), (.int .u8 0), (.int .u8 0), (.int .u8 0), (.int .u8 0), (.int .u8 0), (.int .u8 0), (.int .u8 0), (.int .u8 0), (.int .u8 0), (.int .u8 0), (.int .u8 0), (.int .u8 0), (.int .u8 0), (.int .u8 0), (.int .u8 0), (.int .u8 0), (.int .u8 0), (.int .u8 0), (.int .u8 0), (.int .u8 0), (.int .u8 0), (.int .u8 0), (.int .u8 0), (.int .u8 0), (.int .u8 0)]⟩])
    (.seq
     (.seq
      (.reg [⟨(some 7), none, .load 4 true (.t 1)⟩,
        ⟨(some 8), none, .mv (.c (.int .i64 0))⟩])
      (.block 0
       (.loop
        (.seq
         (.reg [⟨(some 9), none, .bin .lss (.t 8) (.c (.int .i64 4))⟩])
         (.seq
          (.cond (.t 9)
           .skip
           (.exit 0))
          (.seq
           (.block 1
            (.seq
             (.reg [⟨(some 10), none, .mv (.t 8)⟩,
               ⟨(some 11), none, .idxG 4 1 false (.t 7) (.t 8)⟩,
               ⟨(some 4), none, .mv (.t 10)⟩,
               ⟨(some 5), none, .mv (.t 11)⟩])
             (.seq
              (.reg [⟨(some 12), none, .mv (.c (.int .i64 0))⟩])
              (.block 2
               (.loop
                (.seq
                 (.reg [⟨(some 13), none, .bin .lss (.t 12) (.c (.int .i64 8))⟩])
                 (.seq
                  (.cond (.t 13)
                   .skip
                   (.exit 2))
                  (.seq
                   (.block 3
                    (.seq
                     (.reg [⟨(some 14), none, .mv (.t 12)⟩,
                       ⟨(some 6), none, .mv (.t 14)⟩])
                     (.reg [⟨(some 15), none, .mv (.t 4)⟩,
                       ⟨(some 16), none, .bin .mul (.c (.int .i64 8)) (.t 15)⟩,
                       ⟨(some 17), none, .bin .sub (.c (.int .i64 31)) (.t 16)⟩,
                       ⟨(some 18), none, .mv (.t 6)⟩,
                       ⟨(some 19), none, .bin .sub (.t 17) (.t 18)⟩,
                       ⟨(some 20), none, .mv (.t 5)⟩,
                       ⟨(some 21), none, .mv (.t 6)⟩,
                       ⟨(some 22), none, .bin .mul (.c (.int .i64 8)) (.t 21)⟩,
                       ⟨(some 23), none, .shf .shr (.t 20) (.t 22)⟩,
                       ⟨(some 24), none, .cvt .u8 (.t 23)⟩,
                       ⟨(some 25), none, .idxP 32 1 (.t 3) (.t 19)⟩,
                       ⟨none, none, .store 1 (.t 25) (.t 24)⟩])))
                   (.reg [⟨(some 26), none, .bin .add (.t 12) (.c (.int .i64 1))⟩,
                     ⟨(some 12), none, .mv (.t 26)⟩])))))))))
           (.reg [⟨(some 27), none, .bin .add (.t 8) (.c (.int .i64 1))⟩,
             ⟨(some 8), none, .mv (.t 27)⟩])))))))
     (.seq
      (.reg [⟨(some 28), none, .load 32 true (.t 3)⟩,
        ⟨none, none, .store 32 (.t 2) (.t 28)⟩])
      .ret))))
theorem fn66 : FnC P0 G0 [] 66 = some (29, [.cell 2 32 true], c66) := by kernel_rfl
/-- math/bits.LeadingZeros64 -/
noncomputable def c68 : C :=
  (.seq
   (.reg [⟨(some 2), none, .mv (.c (.int .i64 0))⟩])
   (.seq
    (.reg [⟨(some 3), none, .mv (.t 0)⟩,
      ⟨(some 4), none, .call 78 [(.t 3)]⟩,
      ⟨(some 5), none, .bin .sub (.c (.int .i64 64)) (.t 4)⟩,
      ⟨(some 2), none, .mv (.t 5)⟩])
    .ret))
theorem fn68 : FnC P0 G0 [] 68 = some (6, [.t 2], c68) := by kernel_rfl
/-- math/bits.Div64 -/
noncomputable def c69 : C :=
  (.seq
   (.reg [⟨(some 6), none, .mv (.c (.int .u64 0))⟩,
     ⟨(some 7), none, .mv (.c (.int .u64 0))⟩])
   (.seq
    (.seq
     (.reg [⟨(some 19), none, .mv (.t 2)⟩,
       ⟨(some 20), none, .bin .eql (.t 19) (.c (.int .u64 0))⟩])
     (.cond (.t 20)
      (.reg [⟨(some 21), none, .load 1 false (.c .any)⟩,
        ⟨none, none, .bad⟩])
      .skip))
    (.seq
     (.seq
      (.reg [⟨(some 22), none, .mv (.t 2)⟩,
        ⟨(some 23), none, .mv (.t 0)⟩,
        ⟨(some 24), none, .bin .leq (.t 22) (.t 23)⟩])
      (.cond (.t 24)
       (.reg [⟨(some 25), none, .load 1 false (.c .any)⟩,
         ⟨none, none, .bad⟩])
       .skip))
     (.seq
      (.seq
       (.reg [⟨(some 26), none, .mv (.t 0)⟩,
         ⟨(some 27), none, .bin .eql (.t 26) (.c (.int .u64 0))⟩])
       (.cond (.t 27)
        (.seq
         (.reg [⟨(some 28), none, .mv (.t 1)⟩,
           ⟨(some 29), none, .mv (.t 2)⟩,
           ⟨(some 30), none, .bin .quo (.t 28) (.t 29)⟩,
           ⟨(some 31), none, .mv (.t 1)⟩,
           ⟨(some 32), none, .mv (.t 2)⟩,
           ⟨(some 33), none, .bin .rem (.t 31) (.t 32)⟩,
           ⟨(some 6), none, .mv (.t 30)⟩,
           ⟨(some 7), none, .mv (.t 33)⟩])
         .ret)
        .skip))
      (.seq
       (.reg [⟨(some 34), none, .mv (.t 2)⟩,
         ⟨(some 35), none, .call 68 [(.t 34)]⟩,
         ⟨(some 36), none, .cvt .u64 (.t 35)⟩,
         ⟨(some 8), none, .mv (.t 36)⟩])
       (.seq
        (.reg [⟨(some 37), none, .mv (.t 2)⟩,
          ⟨(some 38), none, .mv (.t 8)⟩,
          ⟨(some 39), none, .shf .shl (.t 37) (.t 38)⟩,
          ⟨(some 2), none, .mv (.t 39)⟩])
        (.seq
         (.reg [⟨(some 40), none, .mv (.t 2)⟩,
           ⟨(some 41), none, .shf .shr (.t 40) (.c (.int .u64 32))⟩,
           ⟨(some 9), none, .mv (.t 41)⟩])
         (.seq
          (.reg [⟨(some 42), none, .mv (.t 2)⟩,
            ⟨(some 43), none, .bin .and (.t 42) (.c (.int .u64 4294967295))⟩,
            ⟨(some 10), none, .mv (.t 43)⟩])
          (.seq
           (.reg [⟨(some 44), none, .mv (.t 0)⟩,
             ⟨(some 45), none, .mv (.t 8)⟩,
             ⟨(some 46), none, .shf .shl (.t 44) (.t 45)⟩,
             ⟨(some 47), none, .mv (.t 1)⟩,
             ⟨(some 48), none, .mv (.t 8)⟩,
             ⟨(some 49), none, .bin .sub (.c (.int .u64 64)) (.t 48)⟩,
             ⟨(some 50), none, .shf .shr (.t 47) (.t 49)⟩,
             ⟨(some 51), none, .bin .or (.t 46) (.t 50)⟩,
             ⟨(some 11), none, .mv (.t 51)⟩])
           (.seq
            (.reg [⟨(some 52), none, .mv (.t 1)⟩,
              ⟨(some 53), none, .mv (.t 8)⟩,
              ⟨(some 54), none, .shf .shl (.t 52) (.t 53)⟩,
              ⟨(some 12), none, .mv (.t 54)⟩])
            (.seq
             (.reg [⟨(some 55), none, .mv (.t 12)⟩,
               ⟨(some 56), none, .shf .shr (.t 55) (.c (.int .u64 32))⟩,
               ⟨(some 13), none, .mv (.t 56)⟩])
             (.seq
              (.reg [⟨(some 57), none, .mv (.t 12)⟩,
                ⟨(some 58), none, .bin .and (.t 57) (.c (.int .u64 4294967295))⟩,
                ⟨(some 14), none, .mv (.t 58)⟩])
              (.seq
               (.reg [⟨(some 59), none, .mv (.t 11)⟩,
                 ⟨(some 60), none, .mv (.t 9)⟩,
                 ⟨(some 61), none, .bin .quo (.t 59) (.t 60)⟩,
                 ⟨(some 15), none, .mv (.t 61)⟩])
               (.seq
                (.reg [⟨(some 62), none, .mv (.t 11)⟩,
                  ⟨(some 63), none, .mv (.t 15)⟩,
                  ⟨(some 64), none, .mv (.t 9)⟩,
                  ⟨(some 65), none, .bin .mul (.t 63) (.t 64)⟩,
                  ⟨(some 66), none, .bin .sub (.t 62) (.t 65)⟩,
                  ⟨(some 16), none, .mv (.t 66)⟩])
                (.seq
                 (.block 0
                  (.loop
                   (.seq
                    (.seq
                     (.reg [⟨(some 67), none, .mv (.t 15)⟩,
                       ⟨(some 68), none, .bin .geq (.t 67) (.c (.int .u64 4294967296))⟩,
                       ⟨(some 69), none, .mv (.t 68)⟩,
                       ⟨(some 70), (some (69, false)), .mv (.t 15)⟩,
                       ⟨(some 71), (some (69, false)), .mv (.t 10)⟩,
                       ⟨(some 72), (some (69, false)), .bin .mul (.t 70) (.t 71)⟩,
                       ⟨(some 73), (some (69, false)), .mv (.t 16)⟩,
                       ⟨(some 74), (some (69, false)), .bin .mul (.c (.int .u64 4294967296)) (.t 73)⟩,
                       ⟨(some 75), (some (69, false)), .mv (.t 13)⟩,
                       ⟨(some 76), (some (69, false)), .bin .add (.t 74) (.t 75)⟩,
                       ⟨(some 77), (some (69, false)), .bin .gtr (.t 72) (.t 76)⟩,
                       ⟨(some 78), none, .pick (.t 69) (.c (.bool true)) (.t 77)⟩])
                     (.cond (.t 78)
                      .skip
                      (.exit 0)))
                    (.block 1
                     (.seq
                      (.reg [⟨(some 79), none, .mv (.t 15)⟩,
                        ⟨(some 80), none, .bin .sub (.t 79) (.c (.int .u64 1))⟩,
                        ⟨(some 15), none, .mv (.t 80)⟩])
                      (.seq
                       (.reg [⟨(some 81), none, .mv (.t 16)⟩,
                         ⟨(some 82), none, .mv (.t 9)⟩,
                         ⟨(some 83), none, .bin .add (.t 81) (.t 82)⟩,
                         ⟨(some 16), none, .mv (.t 83)⟩])
                       (.seq
                        (.reg [⟨(some 84), none, .mv (.t 16)⟩,
                          ⟨(some 85), none, .bin .geq (.t 84) (.c (.int .u64 4294967296))⟩])
                        (.cond (.t 85)
                         (.exit 0)
                         .skip))))))))
                 (.seq
                  (.reg [⟨(some 86), none, .mv (.t 11)⟩,
                    ⟨(some 87), none, .bin .mul (.t 86) (.c (.int .u64 4294967296))⟩,
                    ⟨(some 88), none, .mv (.t 13)⟩,
                    ⟨(some 89), none, .bin .add (.t 87) (.t 88)⟩,
                    ⟨(some 90), none, .mv (.t 15)⟩,
                    ⟨(some 91), none, .mv (.t 2)⟩,
                    ⟨(some 92), none, .bin .mul (.t 90) (.t 91)⟩,
                    ⟨(some 93), none, .bin .sub (.t 89) (.t 92)⟩,
                    ⟨(some 17), none, .mv (.t 93)⟩])
                  (.seq
                   (.reg [⟨(some 94), none, .mv (.t 17)⟩,
                     ⟨(some 95), none, .mv (.t 9)⟩,
                     ⟨(some 96), none, .bin .quo (.t 94) (.t 95)⟩,
                     ⟨(some 18), none, .mv (.t 96)⟩])
                   (.seq
                    (.reg [⟨(some 97), none, .mv (.t 17)⟩,
                      ⟨(some 98), none, .mv (.t 18)⟩,
                      ⟨(some 99), none, .mv (.t 9)⟩,
                      ⟨(some 100), none, .bin .mul (.t 98) (.t 99)⟩,
                      ⟨(some 101), none, .bin .sub (.t 97) (.t 100)⟩,
                      ⟨(some 16), none, .mv (.t 101)⟩])
                    (.seq
                     (.block 2
                      (.loop
                       (.seq
                        (.seq
                         (.reg [⟨(some 102), none, .mv (.t 18)⟩,
                           ⟨(some 103), none, .bin .geq (.t 102) (.c (.int .u64 4294967296))⟩,
                           ⟨(some 104), none, .mv (.t 103)⟩,
                           ⟨(some 105), (some (104, false)), .mv (.t 18)⟩,
                           ⟨(some 106), (some (104, false)), .mv (.t 10)⟩,
                           ⟨(some 107), (some (104, false)), .bin .mul (.t 105) (.t 106)⟩,
                           ⟨(some 108), (some (104, false)), .mv (.t 16)⟩,
                           ⟨(some 109), (some (104, false)), .bin .mul (.c (.int .u64 4294967296)) (.t 108)⟩,
                           ⟨(some 110), (some (104, false)), .mv (.t 14)⟩,
                           ⟨(some 111), (some (104, false)), .bin .add (.t 109) (.t 110)⟩,
                           ⟨(some 112), (some (104, false)), .bin .gtr (.t 107) (.t 111)⟩,
                           ⟨(some 113), none, .pick (.t 104) (.c (.bool true)) (.t 112)⟩])
                         (.cond (.t 113)
                          .skip
                          (.exit 2)))
                        (.block 3
                         (.seq
                          (.reg [⟨(some 114), none, .mv (.t 18)⟩,
                            ⟨(some 115), none, .bin .sub (.t 114) (.c (.int .u64 1))⟩,
                            ⟨(some 18), none, .mv (.t 115)⟩])
                          (.seq
                           (.reg [⟨(some 116), none, .mv (.t 16)⟩,
                             ⟨(some 117), none, .mv (.t 9)⟩,
                             ⟨(some 118), none, .bin .add (.t 116) (.t 117)⟩,
                             ⟨(some 16), none, .mv (.t 118)⟩])
                           (.seq
                            (.reg [⟨(some 119), none, .mv (.t 16)⟩,
                              ⟨(some 120), none, .bin .geq (.t 119) (.c (.int .u64 4294967296))⟩])
                            (.cond (.t 120)
                             (.exit 2)
                             .skip))))))))
                     (.seq
                      (.reg [⟨(some 121), none, .mv (.t 15)⟩,
                        ⟨(some 122), none, .bin .mul (.t 121) (.c (.int .u64 4294967296))⟩,
                        ⟨(some 123), none, .mv (.t 18)⟩,
                        ⟨(some 124), none, .bin .add (.t 122) (.t 123)⟩,
                        ⟨(some 125), none, .mv (.t 17)⟩,
                        ⟨(some 126), none, .bin .mul (.t 125) (.c (.int .u64 4294967296))⟩,
                        ⟨(some 127), none, .mv (.t 14)⟩,
                        ⟨(some 128), none, .bin .add (.t 126) (.t 127)⟩,
                        ⟨(some 129), none, .mv (.t 18)⟩,
                        ⟨(some 130), none, .mv (.t 2)⟩,
                        ⟨(some 131), none, .bin .mul (.t 129) (.t 130)⟩,
                        ⟨(some 132), none, .bin .sub (.t 128) (.t 131)⟩,
                        ⟨(some 133), none, .mv (.t 8)⟩,
                        ⟨(some 134), none, .shf .shr (.t 132) (.t 133)⟩,
                        ⟨(some 6), none, .mv (.t 124)⟩,
                        ⟨(some 7), none, .mv (.t 134)⟩])
                      .ret))))))))))))))))))))
theorem fn69 : FnC P0 G0 [] 69 = some (135, [.t 6, .t 7], c69) := by kernel_rfl
/-- math/bits.Len64 -/
noncomputable def c78 : C :=
  (.seq
   (.reg [⟨(some 2), none, .mv (.c (.int .i64 0))⟩])
   (.seq
    (.seq
     (.reg [⟨(some 3), none, .mv (.t 0)⟩,
       ⟨(some 4), none, .bin .geq (.t 3) (.c (.int .u64 4294967296))⟩])
     (.cond (.t 4)
      (.seq
       (.reg [⟨(some 5), none, .mv (.t 0)⟩,
         ⟨(some 6), none, .shf .shr (.t 5) (.c (.int .u64 32))⟩,
         ⟨(some 0), none, .mv (.t 6)⟩])
       (.reg [⟨(some 2), none, .mv (.c (.int .i64 32))⟩]))
      .skip))
    (.seq
     (.seq
      (.reg [⟨(some 7), none, .mv (.t 0)⟩,
        ⟨(some 8), none, .bin .geq (.t 7) (.c (.int .u64 65536))⟩])
      (.cond (.t 8)
       (.seq
        (.reg [⟨(some 9), none, .mv (.t 0)⟩,
          ⟨(some 10), none, .shf .shr (.t 9) (.c (.int .u64 16))⟩,
          ⟨(some 0), none, .mv (.t 10)⟩])
        (.reg [⟨(some 11), none, .mv (.t 2)⟩,
          ⟨(some 12), none, .bin .add (.t 11) (.c (.int .i64 16))⟩,
          ⟨(some 2), none, .mv (.t 12)⟩]))
       .skip))
     (.seq
      (.seq
       (.reg [⟨(some 13), none, .mv (.t 0)⟩,
         ⟨(some 14), none, .bin .geq (.t 13) (.c (.int .u64 256))⟩])
       (.cond (.t 14)
        (.seq
         (.reg [⟨(some 15), none, .mv (.t 0)⟩,
           ⟨(some 16), none, .shf .shr (.t 15) (.c (.int .u64 8))⟩,
           ⟨(some 0), none, .mv (.t 16)⟩])
         (.reg [⟨(some 17), none, .mv (.t 2)⟩,
           ⟨(some 18), none, .bin .add (.t 17) (.c (.int .i64 8))⟩,
           ⟨(some 2), none, .mv (.t 18)⟩]))
        .skip))
      (.seq
       (.reg [⟨(some 19), none, .mv (.t 2)⟩,
         ⟨(some 20), none, .mv (.t 0)⟩,
         ⟨(some 21), none, .cvt .u8 (.t 20)⟩,
         ⟨(some 22), none, .idxS (.c (.str [0, 1, 2, 2, 3, 3, 3, 3, 4, 4, 4, 4, 4, 4, 4, 4, 5, 5, 5, 5, 5, 5, 5, 5, 5, 5, 5, 5, 5, 5, 5, 5, 6, 6, 6, 6, 6, 6, 6, 6, 6, 6, 6, 6, 6, 6, 6, 6, 6, 6, 6, 6, 6, 6, 6, 6, 6, 6, 6, 6, 6, 6, 6, 6, 7, 7, 7, 7, 7, 7, 7, 7, 7, 7, 7, 7, 7, 7, 7, 7, 7, 7, 7, 7, 7, 7, 7, 7, 7, 7, 7, 7, 7, 7, 7, 7, 7, 7, 7, 7, 7, 7, 7, 7, 7, 7, 7, 7, 7, 7, 7, 7, 7, 7, 7, 7, 7, 7, 7, 7, 7, 7, 7, 7, 7, 7, 7, 7, 8, 8, 8, 8, 8, 8, 8, 8, 8, 8, 8, 8, 8, 8, 8, 8, 8, 8, 8, 8, 8, 8, 8, 8, 8, 8, 8, 8, 8, 8, 8, 8, 8, 8, 8, 8, 8, 8, 8, 8, 8, 8, 8, 8, 8, 8, 8, 8, 8, 8, 8, 8, 8, 8, 8, 8, 8, 8, 8, 8, 8, 8, 8, 8, 8, 8, 8, 8, 8, 8, 8, 8, 8, 8, 8, 8, 8, 8, 8, 8, 8, 8, 8, 8, 8, 8, 8, 8, 8, 8, 8, 8, 8, 8, 8, 8, 8, 8, 8, 8, 8, 8, 8, 8, 8, 8, 8, 8, 8, 8, 8, 8, 8, 8, 8, 8, 8, 8, 8, 8, 8, 8, 8, 8, 8, 8, 8, 8])) (.t 21)⟩,
         ⟨(some 23), none, .cvt .i64 (.t 22)⟩,
         ⟨(some 24), none, .bin .add (.t 19) (.t 23)⟩,
         ⟨(some 2), none, .mv (.t 24)⟩])
       .ret)))))
theorem fn78 : FnC P0 G0 [] 78 = some (25, [.t 2], c78) := by kernel_rfl
end Go.Proofs.Yteknjhamekpfjaa
