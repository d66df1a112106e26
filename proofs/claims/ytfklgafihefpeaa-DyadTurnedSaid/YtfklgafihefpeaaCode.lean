/- The bodies of the functions in a small code, each equal to what the loaded function's body converts to. -/
import Derived.Test.YtfklgafihefpeaaEvP
import Derived.Test.YtfklgafihefpeaaChecked
set_option linter.unusedVariables false
set_option linter.unusedSimpArgs false
namespace Go.Ev.T
open Go.Proofs

def a2 : ACode :=
  .region [⟨(some 0), .call 1, [], none⟩]
theorem t2 : told Try.prog Try.f2 = some (1, a2, []) := by kernel_rfl

def a3r2 : ACode :=
  .ret
def a3r1 : ACode := .seq (.region [⟨(some 5), .move, [.t 0], none⟩,
    ⟨(some 6), .move, [.t 1], none⟩,
    ⟨(some 7), .call 6, [.t 5, .t 6], none⟩,
    ⟨(some 8), .move, [.t 0], none⟩,
    ⟨(some 9), .move, [.t 1], none⟩,
    ⟨(some 10), .call 7, [.t 8, .t 9], none⟩,
    ⟨(some 11), .binB false, [.t 7, .t 10], none⟩,
    ⟨(some 12), .move, [.t 11], none⟩,
    ⟨(some 13), .call 8, [], some (12, true)⟩,
    ⟨(some 14), .pick, [.t 12, .t 13, .c (.bool false)], none⟩,
    ⟨(some 4), .move, [.t 14], none⟩]) a3r2
def a3 : ACode := .seq (.region [⟨(some 4), .move, [.c (.bool false)], none⟩]) a3r1
theorem t3 : told Try.prog Try.f3 = some (15, a3, [.tmp 4]) := by kernel_rfl

def a4r11 : ACode :=
  .ret
def a4r10 : ACode := .seq (.region [⟨(some 103), .load (some 3), [.t 15], none⟩,
    ⟨(some 104), .load (some 3), [.t 17], none⟩,
    ⟨(some 105), .call 11, [.t 103, .t 104], none⟩,
    ⟨(some 106), .bin .eql, [.t 105, .c (.int .i64 0)], none⟩,
    ⟨(some 107), .move, [.t 106], none⟩,
    ⟨(some 108), .load (some 3), [.t 15], some (107, true)⟩,
    ⟨(some 109), .load (some 3), [.t 19], some (107, true)⟩,
    ⟨(some 110), .load (some 3), [.t 21], some (107, true)⟩,
    ⟨(some 111), .buildSl 32 3, [.t 109, .t 110], some (107, true)⟩,
    ⟨(some 112), .call 12, [.t 108, .t 111], some (107, true)⟩,
    ⟨(some 113), .call 13, [.c (.int .i64 1)], some (107, true)⟩,
    ⟨(some 114), .call 11, [.t 112, .t 113], some (107, true)⟩,
    ⟨(some 115), .bin .eql, [.t 114, .c (.int .i64 0)], some (107, true)⟩,
    ⟨(some 116), .pick, [.t 107, .t 115, .c (.bool false)], none⟩,
    ⟨(some 117), .move, [.t 116], none⟩,
    ⟨(some 118), .call 8, [], some (117, true)⟩,
    ⟨(some 119), .pick, [.t 117, .t 118, .c (.bool false)], none⟩,
    ⟨(some 4), .move, [.t 119], none⟩]) a4r11
def a4r9 : ACode := .seq (.region [⟨(some 98), .load (some 3), [.t 5], none⟩,
    ⟨(some 99), .load (some 3), [.t 7], none⟩,
    ⟨(some 100), .call 10, [.c (.int .i32 62), .t 98, .t 99, .c (.int .i64 64)], none⟩,
    ⟨(some 97), .move, [.t 100], none⟩,
    ⟨(some 101), .extract 0, [.t 97], none⟩,
    ⟨(some 102), .extract 1, [.t 97], none⟩,
    ⟨(some 21), .alloc [.nil, .bool false, .nil], [], none⟩,
    ⟨none, .store 3, [.t 21, .t 101], none⟩,
    ⟨(some 22), .move, [.t 102], none⟩]) a4r10
def a4r8 : ACode := .seq (.region [⟨(some 92), .load (some 3), [.t 5], none⟩,
    ⟨(some 93), .load (some 3), [.t 7], none⟩,
    ⟨(some 94), .call 10, [.c (.int .i32 61), .t 92, .t 93, .c (.int .i64 64)], none⟩,
    ⟨(some 91), .move, [.t 94], none⟩,
    ⟨(some 95), .extract 0, [.t 91], none⟩,
    ⟨(some 96), .extract 1, [.t 91], none⟩,
    ⟨(some 19), .alloc [.nil, .bool false, .nil], [], none⟩,
    ⟨none, .store 3, [.t 19, .t 95], none⟩,
    ⟨(some 20), .move, [.t 96], none⟩]) a4r9
def a4r7 : ACode := .seq (.region [⟨(some 86), .load (some 3), [.t 7], none⟩,
    ⟨(some 87), .load (some 3), [.t 5], none⟩,
    ⟨(some 88), .call 10, [.c (.int .i32 62), .t 86, .t 87, .c (.int .i64 64)], none⟩,
    ⟨(some 85), .move, [.t 88], none⟩,
    ⟨(some 89), .extract 0, [.t 85], none⟩,
    ⟨(some 90), .extract 1, [.t 85], none⟩,
    ⟨(some 17), .alloc [.nil, .bool false, .nil], [], none⟩,
    ⟨none, .store 3, [.t 17, .t 89], none⟩,
    ⟨(some 18), .move, [.t 90], none⟩]) a4r8
def a4r6 : ACode := .seq (.region [⟨(some 80), .load (some 3), [.t 5], none⟩,
    ⟨(some 81), .load (some 3), [.t 7], none⟩,
    ⟨(some 82), .call 10, [.c (.int .i32 60), .t 80, .t 81, .c (.int .i64 64)], none⟩,
    ⟨(some 79), .move, [.t 82], none⟩,
    ⟨(some 83), .extract 0, [.t 79], none⟩,
    ⟨(some 84), .extract 1, [.t 79], none⟩,
    ⟨(some 15), .alloc [.nil, .bool false, .nil], [], none⟩,
    ⟨none, .store 3, [.t 15, .t 83], none⟩,
    ⟨(some 16), .move, [.t 84], none⟩]) a4r7
def a4r5 : ACode := .seq (.seq (.region [⟨(some 10), .move, [.c (.int .i64 0)], none⟩])
  (.block 0 (.loop (.seq (.seq (.region [⟨(some 41), .move, [.t 10], none⟩,
        ⟨(some 42), .move, [.t 9], none⟩,
        ⟨(some 43), .lenL, [.t 42], none⟩,
        ⟨(some 44), .bin .lss, [.t 41, .t 43], none⟩])
     (.cond (.t 44)
       (.skip)
       (.exit 0)))
    (.seq (.block 1 (.seq (.draw [⟨(some 48), .move, [.t 9], none⟩,
         ⟨(some 49), .move, [.t 10], none⟩,
         ⟨(some 50), .iaddr 1, [.t 48, .t 49], none⟩,
         ⟨(some 51), .load none, [.t 50], none⟩,
         ⟨(some 52), .load (some 3), [.t 5], none⟩,
         ⟨(some 53), .load (some 3), [.t 7], none⟩,
         ⟨(some 54), .call 10, [.t 51, .t 52, .t 53, .c (.int .i64 64)], none⟩,
         ⟨(some 47), .move, [.t 54], none⟩,
         ⟨(some 55), .extract 0, [.t 47], none⟩,
         ⟨(some 56), .extract 1, [.t 47], none⟩,
         ⟨(some 11), .alloc [.nil, .bool false, .nil], [], none⟩,
         ⟨none, .store 3, [.t 11, .t 55], none⟩,
         ⟨(some 12), .move, [.t 56], none⟩] [0, 0, 3, 7, 0, 0, 63, 127, 255, 255, 0, 1535, 4095])
      (.seq (.draw [⟨(some 58), .move, [.t 9], none⟩,
         ⟨(some 59), .move, [.t 10], none⟩,
         ⟨(some 60), .iaddr 1, [.t 58, .t 59], none⟩,
         ⟨(some 61), .load none, [.t 60], none⟩,
         ⟨(some 62), .load (some 3), [.t 7], none⟩,
         ⟨(some 63), .load (some 3), [.t 5], none⟩,
         ⟨(some 64), .call 10, [.t 61, .t 62, .t 63, .c (.int .i64 64)], none⟩,
         ⟨(some 57), .move, [.t 64], none⟩,
         ⟨(some 65), .extract 0, [.t 57], none⟩,
         ⟨(some 66), .extract 1, [.t 57], none⟩,
         ⟨(some 13), .alloc [.nil, .bool false, .nil], [], none⟩,
         ⟨none, .store 3, [.t 13, .t 65], none⟩,
         ⟨(some 14), .move, [.t 66], none⟩] [0, 0, 3, 7, 0, 0, 63, 127, 255, 255, 0, 1535, 4095])
      (.seq (.region [⟨(some 67), .move, [.t 12], none⟩,
         ⟨(some 68), .bin .neq, [.t 67, .c (.int .i64 0)], none⟩,
         ⟨(some 69), .move, [.t 68], none⟩,
         ⟨(some 70), .move, [.t 14], some (69, false)⟩,
         ⟨(some 71), .bin .neq, [.t 70, .c (.int .i64 0)], some (69, false)⟩,
         ⟨(some 72), .pick, [.t 69, .c (.bool true), .t 71], none⟩,
         ⟨(some 73), .move, [.t 72], none⟩,
         ⟨(some 74), .load (some 3), [.t 11], some (73, false)⟩,
         ⟨(some 75), .load (some 3), [.t 13], some (73, false)⟩,
         ⟨(some 76), .call 11, [.t 74, .t 75], some (73, false)⟩,
         ⟨(some 77), .bin .neq, [.t 76, .c (.int .i64 0)], some (73, false)⟩,
         ⟨(some 78), .pick, [.t 73, .c (.bool true), .t 77], none⟩])
      (.cond (.t 78)
        (.seq (.region [⟨(some 4), .move, [.c (.bool false)], none⟩])
        (.ret))
        (.skip))))))
    (.region [⟨(some 45), .move, [.t 10], none⟩,
      ⟨(some 46), .bin .add, [.t 45, .c (.int .i64 1)], none⟩,
      ⟨(some 10), .move, [.t 46], none⟩])))))) a4r6
def a4r4 : ACode := .seq (.region [⟨(some 40), .buildSl 21 1, [.c (.int .i32 43), .c (.int .i32 215), .c (.int .i32 8968), .c (.int .i32 8970), .c (.int .i32 61), .c (.int .i32 8800)], none⟩,
    ⟨(some 9), .move, [.t 40], none⟩]) a4r5
def a4r3 : ACode := .seq (.seq (.region [⟨(some 33), .move, [.t 6], none⟩,
     ⟨(some 34), .un .not, [.t 33], none⟩,
     ⟨(some 35), .move, [.t 34], none⟩,
     ⟨(some 36), .move, [.t 8], some (35, false)⟩,
     ⟨(some 37), .un .not, [.t 36], some (35, false)⟩,
     ⟨(some 38), .pick, [.t 35, .c (.bool true), .t 37], none⟩])
  (.cond (.t 38)
    (.seq (.region [⟨(some 39), .call 8, [], none⟩,
       ⟨(some 4), .move, [.t 39], none⟩])
    (.ret))
    (.skip))) a4r4
def a4r2 : ACode := .seq (.region [⟨(some 29), .load (some 3), [.t 3], none⟩,
    ⟨(some 30), .call 9, [.t 29], none⟩,
    ⟨(some 28), .move, [.t 30], none⟩,
    ⟨(some 31), .extract 0, [.t 28], none⟩,
    ⟨(some 32), .extract 1, [.t 28], none⟩,
    ⟨(some 7), .alloc [.nil, .bool false, .nil], [], none⟩,
    ⟨none, .store 3, [.t 7, .t 31], none⟩,
    ⟨(some 8), .move, [.t 32], none⟩]) a4r3
def a4r1 : ACode := .seq (.region [⟨(some 24), .load (some 3), [.t 2], none⟩,
    ⟨(some 25), .call 9, [.t 24], none⟩,
    ⟨(some 23), .move, [.t 25], none⟩,
    ⟨(some 26), .extract 0, [.t 23], none⟩,
    ⟨(some 27), .extract 1, [.t 23], none⟩,
    ⟨(some 5), .alloc [.nil, .bool false, .nil], [], none⟩,
    ⟨none, .store 3, [.t 5, .t 26], none⟩,
    ⟨(some 6), .move, [.t 27], none⟩]) a4r2
def a4 : ACode := .seq (.region [⟨(some 2), .box, [.t 0], none⟩,
    ⟨(some 3), .box, [.t 1], none⟩,
    ⟨(some 4), .move, [.c (.bool false)], none⟩]) a4r1
theorem t4 : told Try.prog Try.f4 = some (120, a4, [.tmp 4]) := by kernel_rfl

def a5r13 : ACode :=
  .ret
def a5r12 : ACode := .seq (.region [⟨(some 141), .move, [.t 22], none⟩,
    ⟨(some 142), .bin .eql, [.t 141, .c (.int .i64 0)], none⟩,
    ⟨(some 143), .move, [.t 142], none⟩,
    ⟨(some 144), .load (some 3), [.t 21], some (143, true)⟩,
    ⟨(some 145), .load (some 3), [.t 11], some (143, true)⟩,
    ⟨(some 146), .buildSl 32 3, [.t 145], some (143, true)⟩,
    ⟨(some 147), .call 14, [.t 144, .t 146], some (143, true)⟩,
    ⟨(some 148), .call 13, [.c (.int .i64 1)], some (143, true)⟩,
    ⟨(some 149), .call 11, [.t 147, .t 148], some (143, true)⟩,
    ⟨(some 150), .bin .eql, [.t 149, .c (.int .i64 0)], some (143, true)⟩,
    ⟨(some 151), .pick, [.t 143, .t 150, .c (.bool false)], none⟩,
    ⟨(some 152), .move, [.t 151], none⟩,
    ⟨(some 153), .call 8, [], some (152, true)⟩,
    ⟨(some 154), .pick, [.t 152, .t 153, .c (.bool false)], none⟩,
    ⟨(some 6), .move, [.t 154], none⟩]) a5r13
def a5r11 : ACode := .seq (.seq (.region [⟨(some 129), .load (some 3), [.t 7], none⟩,
     ⟨(some 130), .call 15, [.t 129], none⟩,
     ⟨(some 131), .bin .eql, [.t 130, .c (.int .i64 0)], none⟩,
     ⟨(some 132), .move, [.t 131], none⟩,
     ⟨(some 133), .move, [.t 9], some (132, true)⟩,
     ⟨(some 134), .bin .gtr, [.t 133, .c (.int .i64 0)], some (132, true)⟩,
     ⟨(some 135), .pick, [.t 132, .t 134, .c (.bool false)], none⟩])
  (.cond (.t 135)
    (.seq (.region [⟨(some 136), .move, [.t 22], none⟩,
       ⟨(some 137), .bin .eql, [.t 136, .c (.int .i64 22)], none⟩,
       ⟨(some 138), .move, [.t 137], none⟩,
       ⟨(some 139), .call 8, [], some (138, true)⟩,
       ⟨(some 140), .pick, [.t 138, .t 139, .c (.bool false)], none⟩,
       ⟨(some 6), .move, [.t 140], none⟩])
    (.ret))
    (.skip))) a5r12
def a5r10 : ACode := .seq (.draw [⟨(some 122), .load (some 3), [.t 7], none⟩,
    ⟨(some 123), .move, [.t 9], none⟩,
    ⟨(some 124), .un .neg, [.t 123], none⟩,
    ⟨(some 125), .call 13, [.t 124], none⟩,
    ⟨(some 126), .call 10, [.c (.int .i32 42), .t 122, .t 125, .c (.int .i64 64)], none⟩,
    ⟨(some 121), .move, [.t 126], none⟩,
    ⟨(some 127), .extract 0, [.t 121], none⟩,
    ⟨(some 128), .extract 1, [.t 121], none⟩,
    ⟨(some 21), .alloc [.nil, .bool false, .nil], [], none⟩,
    ⟨none, .store 3, [.t 21, .t 127], none⟩,
    ⟨(some 22), .move, [.t 128], none⟩] [0, 0, 2, 6, 15, 31, 63, 63, 0, 383, 1023]) a5r11
def a5r9 : ACode := .seq (.seq (.draw [⟨(some 88), .move, [.t 12], none⟩,
     ⟨(some 89), .bin .neq, [.t 88, .c (.int .i64 0)], none⟩,
     ⟨(some 90), .move, [.t 89], none⟩,
     ⟨(some 91), .move, [.t 14], some (90, false)⟩,
     ⟨(some 92), .bin .neq, [.t 91, .c (.int .i64 0)], some (90, false)⟩,
     ⟨(some 93), .pick, [.t 90, .c (.bool true), .t 92], none⟩,
     ⟨(some 94), .move, [.t 93], none⟩,
     ⟨(some 95), .move, [.t 16], some (94, false)⟩,
     ⟨(some 96), .bin .neq, [.t 95, .c (.int .i64 0)], some (94, false)⟩,
     ⟨(some 97), .pick, [.t 94, .c (.bool true), .t 96], none⟩,
     ⟨(some 98), .move, [.t 97], none⟩,
     ⟨(some 99), .move, [.t 18], some (98, false)⟩,
     ⟨(some 100), .bin .neq, [.t 99, .c (.int .i64 0)], some (98, false)⟩,
     ⟨(some 101), .pick, [.t 98, .c (.bool true), .t 100], none⟩,
     ⟨(some 102), .move, [.t 101], none⟩,
     ⟨(some 103), .move, [.t 20], some (102, false)⟩,
     ⟨(some 104), .bin .neq, [.t 103, .c (.int .i64 0)], some (102, false)⟩,
     ⟨(some 105), .pick, [.t 102, .c (.bool true), .t 104], none⟩,
     ⟨(some 106), .move, [.t 105], none⟩,
     ⟨(some 107), .load (some 3), [.t 11], some (106, false)⟩,
     ⟨(some 108), .load (some 3), [.t 13], some (106, false)⟩,
     ⟨(some 109), .buildSl 32 3, [.t 108], some (106, false)⟩,
     ⟨(some 110), .call 14, [.t 107, .t 109], some (106, false)⟩,
     ⟨(some 111), .load (some 3), [.t 15], some (106, false)⟩,
     ⟨(some 112), .call 11, [.t 110, .t 111], some (106, false)⟩,
     ⟨(some 113), .bin .neq, [.t 112, .c (.int .i64 0)], some (106, false)⟩,
     ⟨(some 114), .pick, [.t 106, .c (.bool true), .t 113], none⟩,
     ⟨(some 115), .move, [.t 114], none⟩,
     ⟨(some 116), .load (some 3), [.t 17], some (115, false)⟩,
     ⟨(some 117), .load (some 3), [.t 19], some (115, false)⟩,
     ⟨(some 118), .call 11, [.t 116, .t 117], some (115, false)⟩,
     ⟨(some 119), .bin .neq, [.t 118, .c (.int .i64 0)], some (115, false)⟩,
     ⟨(some 120), .pick, [.t 115, .c (.bool true), .t 119], none⟩] [0, 1, 3, 7, 15, 31, 63, 127, 255, 511, 1023, 2047, 4095, 8191, 16383, 32767, 65535, 131071, 262143, 524287, 524287, 1572863, 4194303, 524287, 16777215, 33554431, 67108863, 134217727, 268435455, 268435455, 1073741823, 2147483647, 4294967295])
  (.cond (.t 120)
    (.seq (.region [⟨(some 6), .move, [.c (.bool false)], none⟩])
    (.ret))
    (.skip))) a5r10
def a5r8 : ACode := .seq (.draw [⟨(some 80), .load (some 3), [.t 7], none⟩,
    ⟨(some 81), .move, [.t 9], none⟩,
    ⟨(some 82), .move, [.t 10], none⟩,
    ⟨(some 83), .bin .mul, [.t 81, .t 82], none⟩,
    ⟨(some 84), .call 13, [.t 83], none⟩,
    ⟨(some 85), .call 10, [.c (.int .i32 42), .t 80, .t 84, .c (.int .i64 64)], none⟩,
    ⟨(some 79), .move, [.t 85], none⟩,
    ⟨(some 86), .extract 0, [.t 79], none⟩,
    ⟨(some 87), .extract 1, [.t 79], none⟩,
    ⟨(some 19), .alloc [.nil, .bool false, .nil], [], none⟩,
    ⟨none, .store 3, [.t 19, .t 86], none⟩,
    ⟨(some 20), .move, [.t 87], none⟩] [0, 0, 0, 6, 14, 31, 63, 127, 127, 0, 767, 2047]) a5r9
def a5r7 : ACode := .seq (.draw [⟨(some 73), .load (some 3), [.t 11], none⟩,
    ⟨(some 74), .move, [.t 10], none⟩,
    ⟨(some 75), .call 13, [.t 74], none⟩,
    ⟨(some 76), .call 10, [.c (.int .i32 42), .t 73, .t 75, .c (.int .i64 64)], none⟩,
    ⟨(some 72), .move, [.t 76], none⟩,
    ⟨(some 77), .extract 0, [.t 72], none⟩,
    ⟨(some 78), .extract 1, [.t 72], none⟩,
    ⟨(some 17), .alloc [.nil, .bool false, .nil], [], none⟩,
    ⟨none, .store 3, [.t 17, .t 77], none⟩,
    ⟨(some 18), .move, [.t 78], none⟩] [0, 0, 2, 7, 15, 31, 31, 0, 191, 511]) a5r8
def a5r6 : ACode := .seq (.draw [⟨(some 64), .load (some 3), [.t 7], none⟩,
    ⟨(some 65), .move, [.t 9], none⟩,
    ⟨(some 66), .move, [.t 10], none⟩,
    ⟨(some 67), .bin .add, [.t 65, .t 66], none⟩,
    ⟨(some 68), .call 13, [.t 67], none⟩,
    ⟨(some 69), .call 10, [.c (.int .i32 42), .t 64, .t 68, .c (.int .i64 64)], none⟩,
    ⟨(some 63), .move, [.t 69], none⟩,
    ⟨(some 70), .extract 0, [.t 63], none⟩,
    ⟨(some 71), .extract 1, [.t 63], none⟩,
    ⟨(some 15), .alloc [.nil, .bool false, .nil], [], none⟩,
    ⟨none, .store 3, [.t 15, .t 70], none⟩,
    ⟨(some 16), .move, [.t 71], none⟩] [0, 0, 0, 6, 14, 31, 63, 127, 127, 0, 767, 2047]) a5r7
def a5r5 : ACode := .seq (.draw [⟨(some 57), .load (some 3), [.t 7], none⟩,
    ⟨(some 58), .move, [.t 10], none⟩,
    ⟨(some 59), .call 13, [.t 58], none⟩,
    ⟨(some 60), .call 10, [.c (.int .i32 42), .t 57, .t 59, .c (.int .i64 64)], none⟩,
    ⟨(some 56), .move, [.t 60], none⟩,
    ⟨(some 61), .extract 0, [.t 56], none⟩,
    ⟨(some 62), .extract 1, [.t 56], none⟩,
    ⟨(some 13), .alloc [.nil, .bool false, .nil], [], none⟩,
    ⟨none, .store 3, [.t 13, .t 61], none⟩,
    ⟨(some 14), .move, [.t 62], none⟩] [0, 0, 2, 7, 15, 31, 31, 0, 191, 511]) a5r6
def a5r4 : ACode := .seq (.draw [⟨(some 50), .load (some 3), [.t 7], none⟩,
    ⟨(some 51), .move, [.t 9], none⟩,
    ⟨(some 52), .call 13, [.t 51], none⟩,
    ⟨(some 53), .call 10, [.c (.int .i32 42), .t 50, .t 52, .c (.int .i64 64)], none⟩,
    ⟨(some 49), .move, [.t 53], none⟩,
    ⟨(some 54), .extract 0, [.t 49], none⟩,
    ⟨(some 55), .extract 1, [.t 49], none⟩,
    ⟨(some 11), .alloc [.nil, .bool false, .nil], [], none⟩,
    ⟨none, .store 3, [.t 11, .t 54], none⟩,
    ⟨(some 12), .move, [.t 55], none⟩] [0, 0, 2, 7, 15, 31, 31, 0, 191, 511]) a5r5
def a5r3 : ACode := .seq (.region [⟨(some 43), .move, [.t 1], none⟩,
    ⟨(some 44), .bin .rem, [.t 43, .c (.int .u8 8)], none⟩,
    ⟨(some 45), .toInt .i64, [.t 44], none⟩,
    ⟨(some 46), .move, [.t 2], none⟩,
    ⟨(some 47), .bin .rem, [.t 46, .c (.int .u8 8)], none⟩,
    ⟨(some 48), .toInt .i64, [.t 47], none⟩,
    ⟨(some 9), .move, [.t 45], none⟩,
    ⟨(some 10), .move, [.t 48], none⟩]) a5r4
def a5r2 : ACode := .seq (.seq (.region [⟨(some 28), .move, [.t 8], none⟩,
     ⟨(some 29), .un .not, [.t 28], none⟩,
     ⟨(some 30), .move, [.t 29], none⟩,
     ⟨(some 31), .faddr 1, [.t 3], some (30, false)⟩,
     ⟨(some 32), .load none, [.t 31], some (30, false)⟩,
     ⟨(some 33), .lenS, [.t 32], some (30, false)⟩,
     ⟨(some 34), .bin .gtr, [.t 33, .c (.int .i64 8)], some (30, false)⟩,
     ⟨(some 35), .pick, [.t 30, .c (.bool true), .t 34], none⟩,
     ⟨(some 36), .move, [.t 35], none⟩,
     ⟨(some 37), .faddr 2, [.t 3], some (36, false)⟩,
     ⟨(some 38), .load none, [.t 37], some (36, false)⟩,
     ⟨(some 39), .lenS, [.t 38], some (36, false)⟩,
     ⟨(some 40), .bin .gtr, [.t 39, .c (.int .i64 8)], some (36, false)⟩,
     ⟨(some 41), .pick, [.t 36, .c (.bool true), .t 40], none⟩])
  (.cond (.t 41)
    (.seq (.region [⟨(some 42), .call 8, [], none⟩,
       ⟨(some 6), .move, [.t 42], none⟩])
    (.ret))
    (.skip))) a5r3
def a5r1 : ACode := .seq (.region [⟨(some 24), .load (some 3), [.t 3], none⟩,
    ⟨(some 25), .call 9, [.t 24], none⟩,
    ⟨(some 23), .move, [.t 25], none⟩,
    ⟨(some 26), .extract 0, [.t 23], none⟩,
    ⟨(some 27), .extract 1, [.t 23], none⟩,
    ⟨(some 7), .alloc [.nil, .bool false, .nil], [], none⟩,
    ⟨none, .store 3, [.t 7, .t 26], none⟩,
    ⟨(some 8), .move, [.t 27], none⟩]) a5r2
def a5 : ACode := .seq (.region [⟨(some 3), .box, [.t 0], none⟩,
    ⟨(some 6), .move, [.c (.bool false)], none⟩]) a5r1
theorem t5 : told Try.prog Try.f5 = some (155, a5, [.tmp 6]) := by kernel_rfl

def a6r3 : ACode :=
  .ret
def a6r2 : ACode := .seq (.region [⟨(some 26), .move, [.t 1], none⟩,
    ⟨(some 27), .bin .neq, [.t 26, .c (.int .i64 0)], none⟩,
    ⟨(some 4), .move, [.t 27], none⟩]) a6r3
def a6r1 : ACode := .seq (.seq (.region [⟨(some 5), .move, [.t 0], none⟩])
  (.block 0 (.seq (.region [⟨(some 7), .bin .eql, [.t 5, .c (.int .i32 60)], none⟩,
      ⟨(some 6), .move, [.t 7], none⟩])
   (.cond (.t 6)
     (.seq (.region [⟨(some 8), .move, [.t 1], none⟩,
        ⟨(some 9), .bin .lss, [.t 8, .c (.int .i64 0)], none⟩,
        ⟨(some 4), .move, [.t 9], none⟩])
     (.ret))
     (.seq (.region [⟨(some 11), .bin .eql, [.t 5, .c (.int .i32 8804)], none⟩,
        ⟨(some 10), .move, [.t 11], none⟩])
     (.cond (.t 10)
       (.seq (.region [⟨(some 12), .move, [.t 1], none⟩,
          ⟨(some 13), .bin .leq, [.t 12, .c (.int .i64 0)], none⟩,
          ⟨(some 4), .move, [.t 13], none⟩])
       (.ret))
       (.seq (.region [⟨(some 15), .bin .eql, [.t 5, .c (.int .i32 61)], none⟩,
          ⟨(some 14), .move, [.t 15], none⟩])
       (.cond (.t 14)
         (.seq (.region [⟨(some 16), .move, [.t 1], none⟩,
            ⟨(some 17), .bin .eql, [.t 16, .c (.int .i64 0)], none⟩,
            ⟨(some 4), .move, [.t 17], none⟩])
         (.ret))
         (.seq (.region [⟨(some 19), .bin .eql, [.t 5, .c (.int .i32 8805)], none⟩,
            ⟨(some 18), .move, [.t 19], none⟩])
         (.cond (.t 18)
           (.seq (.region [⟨(some 20), .move, [.t 1], none⟩,
              ⟨(some 21), .bin .geq, [.t 20, .c (.int .i64 0)], none⟩,
              ⟨(some 4), .move, [.t 21], none⟩])
           (.ret))
           (.seq (.region [⟨(some 23), .bin .eql, [.t 5, .c (.int .i32 62)], none⟩,
              ⟨(some 22), .move, [.t 23], none⟩])
           (.cond (.t 22)
             (.seq (.region [⟨(some 24), .move, [.t 1], none⟩,
                ⟨(some 25), .bin .gtr, [.t 24, .c (.int .i64 0)], none⟩,
                ⟨(some 4), .move, [.t 25], none⟩])
             (.ret))
             (.skip))))))))))))) a6r2
def a6 : ACode := .seq (.region [⟨(some 4), .move, [.c (.bool false)], none⟩]) a6r1
theorem t6 : told Try.prog Try.f6 = some (28, a6, [.tmp 4]) := by kernel_rfl

def a7r4 : ACode :=
  .ret
def a7r3 : ACode := .seq (.region [⟨(some 37), .move, [.t 1], none⟩,
    ⟨(some 38), .bin .eql, [.t 37, .c (.int .i64 0)], none⟩,
    ⟨(some 39), .move, [.t 0], none⟩,
    ⟨(some 40), .bin .eql, [.t 39, .c (.int .i32 61)], none⟩,
    ⟨(some 41), .binB false, [.t 38, .t 40], none⟩,
    ⟨(some 4), .move, [.t 41], none⟩]) a7r4
def a7r2 : ACode := .seq (.seq (.region [⟨(some 21), .move, [.t 0], none⟩,
     ⟨(some 22), .bin .eql, [.t 21, .c (.int .i32 62)], none⟩,
     ⟨(some 23), .move, [.t 22], none⟩,
     ⟨(some 24), .move, [.t 0], some (23, false)⟩,
     ⟨(some 25), .bin .eql, [.t 24, .c (.int .i32 8805)], some (23, false)⟩,
     ⟨(some 26), .pick, [.t 23, .c (.bool true), .t 25], none⟩])
  (.cond (.t 26)
    (.seq (.region [⟨(some 27), .move, [.t 1], none⟩,
       ⟨(some 28), .bin .gtr, [.t 27, .c (.int .i64 0)], none⟩,
       ⟨(some 29), .move, [.t 28], none⟩,
       ⟨(some 30), .move, [.t 0], some (29, false)⟩,
       ⟨(some 31), .bin .eql, [.t 30, .c (.int .i32 8805)], some (29, false)⟩,
       ⟨(some 32), .move, [.t 31], some (29, false)⟩,
       ⟨(some 33), .move, [.t 1], some (32, true)⟩,
       ⟨(some 34), .bin .eql, [.t 33, .c (.int .i64 0)], some (32, true)⟩,
       ⟨(some 35), .pick, [.t 32, .t 34, .c (.bool false)], some (29, false)⟩,
       ⟨(some 36), .pick, [.t 29, .c (.bool true), .t 35], none⟩,
       ⟨(some 4), .move, [.t 36], none⟩])
    (.ret))
    (.skip))) a7r3
def a7r1 : ACode := .seq (.seq (.region [⟨(some 5), .move, [.t 0], none⟩,
     ⟨(some 6), .bin .eql, [.t 5, .c (.int .i32 60)], none⟩,
     ⟨(some 7), .move, [.t 6], none⟩,
     ⟨(some 8), .move, [.t 0], some (7, false)⟩,
     ⟨(some 9), .bin .eql, [.t 8, .c (.int .i32 8804)], some (7, false)⟩,
     ⟨(some 10), .pick, [.t 7, .c (.bool true), .t 9], none⟩])
  (.cond (.t 10)
    (.seq (.region [⟨(some 11), .move, [.t 1], none⟩,
       ⟨(some 12), .bin .lss, [.t 11, .c (.int .i64 0)], none⟩,
       ⟨(some 13), .move, [.t 12], none⟩,
       ⟨(some 14), .move, [.t 0], some (13, false)⟩,
       ⟨(some 15), .bin .eql, [.t 14, .c (.int .i32 8804)], some (13, false)⟩,
       ⟨(some 16), .move, [.t 15], some (13, false)⟩,
       ⟨(some 17), .move, [.t 1], some (16, true)⟩,
       ⟨(some 18), .bin .eql, [.t 17, .c (.int .i64 0)], some (16, true)⟩,
       ⟨(some 19), .pick, [.t 16, .t 18, .c (.bool false)], some (13, false)⟩,
       ⟨(some 20), .pick, [.t 13, .c (.bool true), .t 19], none⟩,
       ⟨(some 4), .move, [.t 20], none⟩])
    (.ret))
    (.skip))) a7r2
def a7 : ACode := .seq (.region [⟨(some 4), .move, [.c (.bool false)], none⟩]) a7r1
theorem t7 : told Try.prog Try.f7 = some (42, a7, [.tmp 4]) := by kernel_rfl

def a8r5 : ACode :=
  .ret
def a8r4 : ACode := .seq (.region [⟨(some 25), .move, [.t 2], none⟩,
    ⟨(some 26), .bin .eql, [.t 25, .c (.int .i64 0)], none⟩,
    ⟨(some 27), .move, [.t 26], none⟩,
    ⟨(some 28), .move, [.t 4], some (27, true)⟩,
    ⟨(some 29), .move, [.t 2], some (27, true)⟩,
    ⟨(some 30), .bin .eql, [.t 28, .t 29], some (27, true)⟩,
    ⟨(some 31), .pick, [.t 27, .t 30, .c (.bool false)], none⟩,
    ⟨(some 32), .move, [.t 31], none⟩,
    ⟨(some 33), .move, [.t 6], some (32, true)⟩,
    ⟨(some 34), .move, [.t 2], some (32, true)⟩,
    ⟨(some 35), .bin .eql, [.t 33, .t 34], some (32, true)⟩,
    ⟨(some 36), .pick, [.t 32, .t 35, .c (.bool false)], none⟩,
    ⟨(some 37), .move, [.t 36], none⟩,
    ⟨(some 38), .load (some 3), [.t 1], some (37, true)⟩,
    ⟨(some 39), .call 16, [.t 38], some (37, true)⟩,
    ⟨(some 40), .call 17, [.c (.int .i64 10)], some (37, true)⟩,
    ⟨(some 41), .eqAgg false [.b, .s, .s], [.t 39, .t 40], some (37, true)⟩,
    ⟨(some 42), .pick, [.t 37, .t 41, .c (.bool false)], none⟩,
    ⟨(some 43), .move, [.t 42], none⟩,
    ⟨(some 44), .load (some 3), [.t 3], some (43, true)⟩,
    ⟨(some 45), .call 16, [.t 44], some (43, true)⟩,
    ⟨(some 46), .build [.bool false, .str ⟨#[]⟩, .str ⟨#[]⟩] [(1, 1), (2, 1)], [.c (.str ⟨#[49]⟩), .c (.str ⟨#[56]⟩)], some (43, true)⟩,
    ⟨(some 47), .eqAgg false [.b, .s, .s], [.t 45, .t 46], some (43, true)⟩,
    ⟨(some 48), .pick, [.t 43, .t 47, .c (.bool false)], none⟩,
    ⟨(some 49), .move, [.t 48], none⟩,
    ⟨(some 50), .load (some 3), [.t 5], some (49, true)⟩,
    ⟨(some 51), .call 16, [.t 50], some (49, true)⟩,
    ⟨(some 52), .call 17, [.c (.int .i64 1)], some (49, true)⟩,
    ⟨(some 53), .eqAgg false [.b, .s, .s], [.t 51, .t 52], some (49, true)⟩,
    ⟨(some 54), .pick, [.t 49, .t 53, .c (.bool false)], none⟩,
    ⟨(some 0), .move, [.t 54], none⟩]) a8r5
def a8r3 : ACode := .seq (.region [⟨(some 20), .call 13, [.c (.int .i64 3)], none⟩,
    ⟨(some 21), .call 13, [.c (.int .i64 7)], none⟩,
    ⟨(some 22), .call 10, [.c (.int .i32 124), .t 20, .t 21, .c (.int .i64 4)], none⟩,
    ⟨(some 19), .move, [.t 22], none⟩,
    ⟨(some 23), .extract 0, [.t 19], none⟩,
    ⟨(some 24), .extract 1, [.t 19], none⟩,
    ⟨(some 5), .alloc [.nil, .bool false, .nil], [], none⟩,
    ⟨none, .store 3, [.t 5, .t 23], none⟩,
    ⟨(some 6), .move, [.t 24], none⟩]) a8r4
def a8r2 : ACode := .seq (.region [⟨(some 14), .call 13, [.c (.int .i64 2)], none⟩,
    ⟨(some 15), .call 13, [.c (.int .i64 (-3))], none⟩,
    ⟨(some 16), .call 10, [.c (.int .i32 42), .t 14, .t 15, .c (.int .i64 4)], none⟩,
    ⟨(some 13), .move, [.t 16], none⟩,
    ⟨(some 17), .extract 0, [.t 13], none⟩,
    ⟨(some 18), .extract 1, [.t 13], none⟩,
    ⟨(some 3), .alloc [.nil, .bool false, .nil], [], none⟩,
    ⟨none, .store 3, [.t 3, .t 17], none⟩,
    ⟨(some 4), .move, [.t 18], none⟩]) a8r3
def a8r1 : ACode := .seq (.region [⟨(some 8), .call 13, [.c (.int .i64 2)], none⟩,
    ⟨(some 9), .call 13, [.c (.int .i64 5)], none⟩,
    ⟨(some 10), .call 10, [.c (.int .i32 33), .t 8, .t 9, .c (.int .i64 4)], none⟩,
    ⟨(some 7), .move, [.t 10], none⟩,
    ⟨(some 11), .extract 0, [.t 7], none⟩,
    ⟨(some 12), .extract 1, [.t 7], none⟩,
    ⟨(some 1), .alloc [.nil, .bool false, .nil], [], none⟩,
    ⟨none, .store 3, [.t 1, .t 11], none⟩,
    ⟨(some 2), .move, [.t 12], none⟩]) a8r2
def a8 : ACode := .seq (.region [⟨(some 0), .move, [.c (.bool false)], none⟩]) a8r1
theorem t8 : told Try.prog Try.f8 = some (55, a8, [.tmp 0]) := by kernel_rfl

def a9r3 : ACode :=
  .ret
def a9r2 : ACode := .seq (.region [⟨(some 20), .load (some 3), [.t 1], none⟩,
    ⟨(some 21), .call 19, [.t 20], none⟩,
    ⟨(some 22), .extract 0, [.t 21], none⟩,
    ⟨(some 23), .extract 1, [.t 21], none⟩,
    ⟨none, .store 3, [.t 2, .t 22], none⟩,
    ⟨(some 3), .move, [.t 23], none⟩]) a9r3
def a9r1 : ACode := .seq (.seq (.region [⟨(some 4), .faddr 1, [.t 1], none⟩,
     ⟨(some 5), .load none, [.t 4], none⟩,
     ⟨(some 6), .lenS, [.t 5], none⟩,
     ⟨(some 7), .bin .gtr, [.t 6, .c (.int .i64 40)], none⟩,
     ⟨(some 8), .move, [.t 7], none⟩,
     ⟨(some 9), .faddr 2, [.t 1], some (8, false)⟩,
     ⟨(some 10), .load none, [.t 9], some (8, false)⟩,
     ⟨(some 11), .lenS, [.t 10], some (8, false)⟩,
     ⟨(some 12), .bin .gtr, [.t 11, .c (.int .i64 40)], some (8, false)⟩,
     ⟨(some 13), .pick, [.t 8, .c (.bool true), .t 12], none⟩,
     ⟨(some 14), .move, [.t 13], none⟩,
     ⟨(some 15), .load (some 3), [.t 1], some (14, false)⟩,
     ⟨(some 16), .call 18, [.t 15], some (14, false)⟩,
     ⟨(some 17), .un .not, [.t 16], some (14, false)⟩,
     ⟨(some 18), .pick, [.t 14, .c (.bool true), .t 17], none⟩])
  (.cond (.t 18)
    (.seq (.region [⟨(some 19), .build [.nil, .bool false, .nil] [], [], none⟩,
       ⟨none, .store 3, [.t 2, .t 19], none⟩,
       ⟨(some 3), .move, [.c (.bool false)], none⟩])
    (.ret))
    (.skip))) a9r2
def a9 : ACode := .seq (.region [⟨(some 1), .box, [.t 0], none⟩,
    ⟨(some 2), .alloc [.nil, .bool false, .nil], [], none⟩,
    ⟨(some 3), .move, [.c (.bool false)], none⟩]) a9r1
theorem t9 : told Try.prog Try.f9 = some (24, a9, [.cell 2 (some 3), .tmp 3]) := by kernel_rfl

def a10r6 : ACode :=
  .ret
def a10r5 : ACode := .seq (.region [⟨(some 55), .load (some 3), [.t 10], none⟩,
    ⟨none, .store 3, [.t 8, .t 55], none⟩,
    ⟨(some 9), .move, [.c (.int .i64 0)], none⟩]) a10r6
def a10r4 : ACode := .seq (.seq (.region [⟨(some 51), .move, [.t 11], none⟩,
     ⟨(some 52), .bin .neq, [.t 51, .c (.int .i64 0)], none⟩])
  (.cond (.t 52)
    (.seq (.region [⟨(some 53), .build [.nil, .bool false, .nil] [], [], none⟩,
       ⟨(some 54), .move, [.t 11], none⟩,
       ⟨none, .store 3, [.t 8, .t 53], none⟩,
       ⟨(some 9), .move, [.t 54], none⟩])
    (.ret))
    (.skip))) a10r5
def a10r3 : ACode := .seq (.seq (.region [⟨(some 43), .move, [.t 11], none⟩,
     ⟨(some 44), .bin .eql, [.t 43, .c (.int .i64 0)], none⟩,
     ⟨(some 45), .move, [.t 44], none⟩,
     ⟨(some 46), .load (some 3), [.t 10], some (45, true)⟩,
     ⟨(some 47), .call 26, [.t 46], some (45, true)⟩,
     ⟨(some 48), .move, [.t 3], some (45, true)⟩,
     ⟨(some 49), .bin .gtr, [.t 47, .t 48], some (45, true)⟩,
     ⟨(some 50), .pick, [.t 45, .t 49, .c (.bool false)], none⟩])
  (.cond (.t 50)
    (.region [⟨(some 11), .move, [.c (.int .i64 26)], none⟩])
    (.skip))) a10r4
def a10r2 : ACode := .seq (.region [⟨(some 36), .move, [.t 0], none⟩,
    ⟨(some 37), .load (some 3), [.t 5], none⟩,
    ⟨(some 38), .load (some 3), [.t 6], none⟩,
    ⟨(some 39), .move, [.t 3], none⟩,
    ⟨(some 40), .call 25, [.t 36, .t 37, .t 38, .t 39], none⟩,
    ⟨(some 35), .move, [.t 40], none⟩,
    ⟨(some 41), .extract 0, [.t 35], none⟩,
    ⟨(some 42), .extract 1, [.t 35], none⟩,
    ⟨(some 10), .alloc [.nil, .bool false, .nil], [], none⟩,
    ⟨none, .store 3, [.t 10, .t 41], none⟩,
    ⟨(some 11), .move, [.t 42], none⟩]) a10r3
def a10r1 : ACode := .seq (.block 0 (.seq (.region [⟨(some 13), .move, [.t 0], none⟩,
      ⟨(some 14), .call 20, [.t 13], none⟩,
      ⟨(some 12), .move, [.t 14], none⟩])
   (.cond (.t 12)
     (.seq (.region [⟨(some 15), .move, [.t 0], none⟩,
        ⟨(some 16), .load (some 3), [.t 5], none⟩,
        ⟨(some 17), .load (some 3), [.t 6], none⟩,
        ⟨(some 18), .call 11, [.t 16, .t 17], none⟩,
        ⟨(some 19), .call 6, [.t 15, .t 18], none⟩,
        ⟨(some 20), .call 21, [.t 19], none⟩,
        ⟨none, .store 3, [.t 8, .t 20], none⟩,
        ⟨(some 9), .move, [.c (.int .i64 0)], none⟩])
     (.ret))
     (.seq (.region [⟨(some 22), .move, [.t 0], none⟩,
        ⟨(some 23), .call 22, [.t 22], none⟩,
        ⟨(some 21), .move, [.t 23], none⟩])
     (.cond (.t 21)
       (.seq (.region [⟨(some 24), .move, [.t 0], none⟩,
          ⟨(some 25), .load (some 3), [.t 5], none⟩,
          ⟨(some 26), .load (some 3), [.t 6], none⟩,
          ⟨(some 27), .call 23, [.t 24, .t 25, .t 26], none⟩,
          ⟨(some 28), .extract 0, [.t 27], none⟩,
          ⟨(some 29), .extract 1, [.t 27], none⟩,
          ⟨none, .store 3, [.t 8, .t 28], none⟩,
          ⟨(some 9), .move, [.t 29], none⟩])
       (.ret))
       (.seq (.region [⟨(some 31), .move, [.t 0], none⟩,
          ⟨(some 32), .call 24, [.t 31], none⟩,
          ⟨(some 33), .un .not, [.t 32], none⟩,
          ⟨(some 30), .move, [.t 33], none⟩])
       (.cond (.t 30)
         (.seq (.region [⟨(some 34), .build [.nil, .bool false, .nil] [], [], none⟩,
            ⟨none, .store 3, [.t 8, .t 34], none⟩,
            ⟨(some 9), .move, [.c (.int .i64 20)], none⟩])
         (.ret))
         (.skip)))))))) a10r2
def a10 : ACode := .seq (.region [⟨(some 5), .box, [.t 1], none⟩,
    ⟨(some 6), .box, [.t 2], none⟩,
    ⟨(some 8), .alloc [.nil, .bool false, .nil], [], none⟩,
    ⟨(some 9), .move, [.c (.int .i64 0)], none⟩]) a10r1
theorem t10 : told Try.prog Try.f10 = some (56, a10, [.cell 8 (some 3), .tmp 9]) := by kernel_rfl

def a11r2 : ACode :=
  .ret
def a11r1 : ACode := .seq (.draw [⟨(some 5), .faddr 0, [.t 2], none⟩,
    ⟨(some 6), .load (some 2), [.t 5], none⟩,
    ⟨(some 7), .load (some 3), [.t 3], none⟩,
    ⟨(some 8), .call 28, [.t 7], none⟩,
    ⟨(some 9), .buildSl 30 2, [.t 8], none⟩,
    ⟨(some 10), .call 27, [.t 6, .t 9], none⟩,
    ⟨(some 11), .faddr 0, [.t 3], none⟩,
    ⟨(some 12), .load (some 2), [.t 11], none⟩,
    ⟨(some 13), .load (some 3), [.t 2], none⟩,
    ⟨(some 14), .call 28, [.t 13], none⟩,
    ⟨(some 15), .buildSl 30 2, [.t 14], none⟩,
    ⟨(some 16), .call 27, [.t 12, .t 15], none⟩,
    ⟨(some 17), .call 29, [.t 10, .t 16], none⟩,
    ⟨(some 4), .move, [.t 17], none⟩] [0, 1, 0, 4, 12, 31, 0, 64, 0, 319, 831, 2047, 4095, 8191]) a11r2
def a11 : ACode := .seq (.region [⟨(some 2), .box, [.t 0], none⟩,
    ⟨(some 3), .box, [.t 1], none⟩,
    ⟨(some 4), .move, [.c (.int .i64 0)], none⟩]) a11r1
theorem t11 : told Try.prog Try.f11 = some (18, a11, [.tmp 4]) := by kernel_rfl

def a12r3 : ACode :=
  .ret
def a12r2 : ACode := .seq (.region [⟨(some 38), .load (some 3), [.t 2], none⟩,
    ⟨none, .store 3, [.t 4, .t 38], none⟩]) a12r3
def a12r1 : ACode := .seq (.seq (.region [⟨(some 7), .move, [.t 1], none⟩,
     ⟨(some 8), .lenL, [.t 7], none⟩,
     ⟨(some 9), .move, [.c (.int .i64 0)], none⟩])
  (.block 0 (.loop (.seq (.region [⟨(some 10), .bin .lss, [.t 9, .t 8], none⟩])
    (.seq (.cond (.t 10)
       (.skip)
       (.exit 0))
    (.seq (.block 1 (.seq (.region [⟨(some 11), .iaddr 3, [.t 7, .t 9], none⟩,
         ⟨(some 12), .load (some 3), [.t 11], none⟩,
         ⟨(some 6), .alloc [.nil, .bool false, .nil], [], none⟩,
         ⟨none, .store 3, [.t 6, .t 12], none⟩])
      (.draw [⟨(some 14), .faddr 0, [.t 2], none⟩,
        ⟨(some 15), .load (some 2), [.t 14], none⟩,
        ⟨(some 16), .load (some 3), [.t 6], none⟩,
        ⟨(some 17), .call 28, [.t 16], none⟩,
        ⟨(some 18), .buildSl 30 2, [.t 17], none⟩,
        ⟨(some 19), .call 27, [.t 15, .t 18], none⟩,
        ⟨(some 20), .faddr 0, [.t 6], none⟩,
        ⟨(some 21), .load (some 2), [.t 20], none⟩,
        ⟨(some 22), .load (some 3), [.t 2], none⟩,
        ⟨(some 23), .call 28, [.t 22], none⟩,
        ⟨(some 24), .buildSl 30 2, [.t 23], none⟩,
        ⟨(some 25), .call 27, [.t 21, .t 24], none⟩,
        ⟨(some 26), .buildSl 30 2, [.t 25], none⟩,
        ⟨(some 27), .call 31, [.t 19, .t 26], none⟩,
        ⟨(some 28), .load (some 3), [.t 2], none⟩,
        ⟨(some 29), .call 28, [.t 28], none⟩,
        ⟨(some 30), .load (some 3), [.t 6], none⟩,
        ⟨(some 31), .call 28, [.t 30], none⟩,
        ⟨(some 32), .buildSl 30 2, [.t 31], none⟩,
        ⟨(some 33), .call 27, [.t 29, .t 32], none⟩,
        ⟨(some 34), .call 30, [.t 27, .t 33], none⟩,
        ⟨(some 13), .move, [.t 34], none⟩,
        ⟨(some 35), .extract 0, [.t 13], none⟩,
        ⟨(some 36), .extract 1, [.t 13], none⟩,
        ⟨none, .store 3, [.t 2, .t 35], none⟩] [0, 1, 0, 4, 12, 31, 0, 64, 0, 319, 831, 2047, 4095, 8191, 0, 32767, 0, 131071, 262143, 524287, 1048575, 2097151, 4194303, 4194303, 8388607])))
    (.region [⟨(some 37), .bin .add, [.t 9, .c (.int .i64 1)], none⟩,
      ⟨(some 9), .move, [.t 37], none⟩]))))))) a12r2
def a12 : ACode := .seq (.region [⟨(some 2), .box, [.t 0], none⟩,
    ⟨(some 4), .alloc [.nil, .bool false, .nil], [], none⟩]) a12r1
theorem t12 : told Try.prog Try.f12 = some (39, a12, [.cell 4 (some 3)]) := by kernel_rfl

def a13r2 : ACode :=
  .ret
def a13r1 : ACode := .seq (.region [⟨(some 3), .move, [.t 0], none⟩,
    ⟨(some 4), .call 32, [.t 3], none⟩,
    ⟨(some 5), .call 33, [.c (.int .u64 1)], none⟩,
    ⟨(some 6), .build [.nil, .bool false, .nil] [(0, 2), (2, 1)], [.t 4, .t 5], none⟩,
    ⟨none, .store 3, [.t 2, .t 6], none⟩]) a13r2
def a13 : ACode := .seq (.region [⟨(some 2), .alloc [.nil, .bool false, .nil], [], none⟩]) a13r1
theorem t13 : told Try.prog Try.f13 = some (7, a13, [.cell 2 (some 3)]) := by kernel_rfl

def a14r3 : ACode :=
  .ret
def a14r2 : ACode := .seq (.region [⟨(some 30), .load (some 3), [.t 2], none⟩,
    ⟨none, .store 3, [.t 4, .t 30], none⟩]) a14r3
def a14r1 : ACode := .seq (.seq (.region [⟨(some 7), .move, [.t 1], none⟩,
     ⟨(some 8), .lenL, [.t 7], none⟩,
     ⟨(some 9), .move, [.c (.int .i64 0)], none⟩])
  (.block 0 (.loop (.seq (.region [⟨(some 10), .bin .lss, [.t 9, .t 8], none⟩])
    (.seq (.cond (.t 10)
       (.skip)
       (.exit 0))
    (.seq (.block 1 (.seq (.region [⟨(some 11), .iaddr 3, [.t 7, .t 9], none⟩,
         ⟨(some 12), .load (some 3), [.t 11], none⟩,
         ⟨(some 6), .alloc [.nil, .bool false, .nil], [], none⟩,
         ⟨none, .store 3, [.t 6, .t 12], none⟩])
      (.draw [⟨(some 14), .faddr 0, [.t 2], none⟩,
        ⟨(some 15), .load (some 2), [.t 14], none⟩,
        ⟨(some 16), .faddr 0, [.t 6], none⟩,
        ⟨(some 17), .load (some 2), [.t 16], none⟩,
        ⟨(some 18), .buildSl 30 2, [.t 17], none⟩,
        ⟨(some 19), .call 27, [.t 15, .t 18], none⟩,
        ⟨(some 20), .load (some 3), [.t 2], none⟩,
        ⟨(some 21), .call 28, [.t 20], none⟩,
        ⟨(some 22), .load (some 3), [.t 6], none⟩,
        ⟨(some 23), .call 28, [.t 22], none⟩,
        ⟨(some 24), .buildSl 30 2, [.t 23], none⟩,
        ⟨(some 25), .call 27, [.t 21, .t 24], none⟩,
        ⟨(some 26), .call 30, [.t 19, .t 25], none⟩,
        ⟨(some 13), .move, [.t 26], none⟩,
        ⟨(some 27), .extract 0, [.t 13], none⟩,
        ⟨(some 28), .extract 1, [.t 13], none⟩,
        ⟨none, .store 3, [.t 2, .t 27], none⟩] [0, 1, 0, 4, 12, 31, 0, 127, 0, 511, 1023, 2047, 4095, 8191, 16383, 16383, 32767])))
    (.region [⟨(some 29), .bin .add, [.t 9, .c (.int .i64 1)], none⟩,
      ⟨(some 9), .move, [.t 29], none⟩]))))))) a14r2
def a14 : ACode := .seq (.region [⟨(some 2), .box, [.t 0], none⟩,
    ⟨(some 4), .alloc [.nil, .bool false, .nil], [], none⟩]) a14r1
theorem t14 : told Try.prog Try.f14 = some (31, a14, [.cell 4 (some 3)]) := by kernel_rfl

def a15r2 : ACode :=
  .ret
def a15r1 : ACode := .seq (.region [⟨(some 3), .faddr 0, [.t 1], none⟩,
    ⟨(some 4), .load (some 2), [.t 3], none⟩,
    ⟨(some 5), .call 34, [.t 4], none⟩,
    ⟨(some 2), .move, [.t 5], none⟩]) a15r2
def a15 : ACode := .seq (.region [⟨(some 1), .box, [.t 0], none⟩,
    ⟨(some 2), .move, [.c (.int .i64 0)], none⟩]) a15r1
theorem t15 : told Try.prog Try.f15 = some (6, a15, [.tmp 2]) := by kernel_rfl

def a16r2 : ACode :=
  .ret
def a16r1 : ACode := .seq (.draw [⟨(some 3), .faddr 0, [.t 1], none⟩,
    ⟨(some 4), .load (some 2), [.t 3], none⟩,
    ⟨(some 5), .call 35, [.t 4], none⟩,
    ⟨(some 6), .faddr 0, [.t 1], none⟩,
    ⟨(some 7), .faddr 0, [.t 6], none⟩,
    ⟨(some 8), .load (some 1), [.t 7], none⟩,
    ⟨(some 9), .call 36, [.t 8], none⟩,
    ⟨(some 10), .load (some 3), [.t 1], none⟩,
    ⟨(some 11), .call 37, [.t 10], none⟩,
    ⟨(some 12), .call 36, [.t 11], none⟩,
    ⟨(some 13), .build [.bool false, .str ⟨#[]⟩, .str ⟨#[]⟩] [(0, 1), (1, 1), (2, 1)], [.t 5, .t 9, .t 12], none⟩,
    ⟨none, .store 3, [.t 2, .t 13], none⟩] [0, 1, 3, 0, 8, 24, 63, 0, 255, 511, 1023, 2047]) a16r2
def a16 : ACode := .seq (.region [⟨(some 1), .box, [.t 0], none⟩,
    ⟨(some 2), .alloc [.bool false, .str ⟨#[]⟩, .str ⟨#[]⟩], [], none⟩]) a16r1
theorem t16 : told Try.prog Try.f16 = some (14, a16, [.cell 2 (some 3)]) := by kernel_rfl

def a17r3 : ACode :=
  .ret
def a17r2 : ACode := .seq (.region [⟨(some 6), .faddr 0, [.t 3], none⟩,
    ⟨(some 7), .load none, [.t 6], none⟩,
    ⟨(some 8), .faddr 1, [.t 3], none⟩,
    ⟨(some 9), .load none, [.t 8], none⟩,
    ⟨(some 10), .build [.bool false, .str ⟨#[]⟩, .str ⟨#[]⟩] [(0, 1), (1, 1), (2, 1)], [.t 7, .t 9, .c (.str ⟨#[49]⟩)], none⟩,
    ⟨none, .store 3, [.t 2, .t 10], none⟩]) a17r3
def a17r1 : ACode := .seq (.region [⟨(some 4), .move, [.t 0], none⟩,
    ⟨(some 5), .call 38, [.t 4], none⟩,
    ⟨(some 3), .alloc [.bool false, .str ⟨#[]⟩], [], none⟩,
    ⟨none, .store 2, [.t 3, .t 5], none⟩]) a17r2
def a17 : ACode := .seq (.region [⟨(some 2), .alloc [.bool false, .str ⟨#[]⟩, .str ⟨#[]⟩], [], none⟩]) a17r1
theorem t17 : told Try.prog Try.f17 = some (11, a17, [.cell 2 (some 3)]) := by kernel_rfl

def a18r3 : ACode :=
  .ret
def a18r2 : ACode := .seq (.region [⟨(some 34), .faddr 1, [.t 1], none⟩,
    ⟨(some 35), .load none, [.t 34], none⟩,
    ⟨(some 36), .faddr 2, [.t 1], none⟩,
    ⟨(some 37), .load none, [.t 36], none⟩,
    ⟨(some 38), .call 41, [.t 35, .t 37], none⟩,
    ⟨(some 39), .bin .eql, [.t 38, .c (.str ⟨#[49]⟩)], none⟩,
    ⟨(some 40), .move, [.t 39], none⟩,
    ⟨(some 41), .faddr 0, [.t 1], some (40, true)⟩,
    ⟨(some 42), .load none, [.t 41], some (40, true)⟩,
    ⟨(some 43), .move, [.t 42], some (40, true)⟩,
    ⟨(some 44), .faddr 1, [.t 1], some (43, true)⟩,
    ⟨(some 45), .load none, [.t 44], some (43, true)⟩,
    ⟨(some 46), .bin .eql, [.t 45, .c (.str ⟨#[48]⟩)], some (43, true)⟩,
    ⟨(some 47), .pick, [.t 43, .t 46, .c (.bool false)], some (40, true)⟩,
    ⟨(some 48), .un .not, [.t 47], some (40, true)⟩,
    ⟨(some 49), .pick, [.t 40, .t 48, .c (.bool false)], none⟩,
    ⟨(some 2), .move, [.t 49], none⟩]) a18r3
def a18r1 : ACode := .seq (.seq (.draw [⟨(some 3), .faddr 1, [.t 1], none⟩,
     ⟨(some 4), .load none, [.t 3], none⟩,
     ⟨(some 5), .call 39, [.t 4], none⟩,
     ⟨(some 6), .un .not, [.t 5], none⟩,
     ⟨(some 7), .move, [.t 6], none⟩,
     ⟨(some 8), .faddr 2, [.t 1], some (7, false)⟩,
     ⟨(some 9), .load none, [.t 8], some (7, false)⟩,
     ⟨(some 10), .call 39, [.t 9], some (7, false)⟩,
     ⟨(some 11), .un .not, [.t 10], some (7, false)⟩,
     ⟨(some 12), .pick, [.t 7, .c (.bool true), .t 11], none⟩,
     ⟨(some 13), .move, [.t 12], none⟩,
     ⟨(some 14), .faddr 1, [.t 1], some (13, false)⟩,
     ⟨(some 15), .load none, [.t 14], some (13, false)⟩,
     ⟨(some 16), .call 40, [.t 15], some (13, false)⟩,
     ⟨(some 17), .faddr 1, [.t 1], some (13, false)⟩,
     ⟨(some 18), .load none, [.t 17], some (13, false)⟩,
     ⟨(some 19), .bin .neq, [.t 16, .t 18], some (13, false)⟩,
     ⟨(some 20), .pick, [.t 13, .c (.bool true), .t 19], none⟩,
     ⟨(some 21), .move, [.t 20], none⟩,
     ⟨(some 22), .faddr 2, [.t 1], some (21, false)⟩,
     ⟨(some 23), .load none, [.t 22], some (21, false)⟩,
     ⟨(some 24), .call 40, [.t 23], some (21, false)⟩,
     ⟨(some 25), .faddr 2, [.t 1], some (21, false)⟩,
     ⟨(some 26), .load none, [.t 25], some (21, false)⟩,
     ⟨(some 27), .bin .neq, [.t 24, .t 26], some (21, false)⟩,
     ⟨(some 28), .pick, [.t 21, .c (.bool true), .t 27], none⟩,
     ⟨(some 29), .move, [.t 28], none⟩,
     ⟨(some 30), .faddr 2, [.t 1], some (29, false)⟩,
     ⟨(some 31), .load none, [.t 30], some (29, false)⟩,
     ⟨(some 32), .bin .eql, [.t 31, .c (.str ⟨#[48]⟩)], some (29, false)⟩,
     ⟨(some 33), .pick, [.t 29, .c (.bool true), .t 32], none⟩] [0, 1, 3, 7, 15, 31, 63, 127, 255, 511, 1023, 2047, 4095, 8191, 2047, 18431, 65535, 131071, 262143, 524287, 1048575, 2097151, 524287, 4718591, 16777215, 33554431, 67108863, 134217727, 268435455, 536870911, 1073741823])
  (.cond (.t 33)
    (.seq (.region [⟨(some 2), .move, [.c (.bool false)], none⟩])
    (.ret))
    (.skip))) a18r2
def a18 : ACode := .seq (.region [⟨(some 1), .box, [.t 0], none⟩,
    ⟨(some 2), .move, [.c (.bool false)], none⟩]) a18r1
theorem t18 : told Try.prog Try.f18 = some (50, a18, [.tmp 2]) := by kernel_rfl

def a19r6 : ACode :=
  .ret
def a19r5 : ACode := .seq (.draw [⟨(some 38), .load (some 3), [.t 8], none⟩,
    ⟨(some 39), .move, [.t 5], none⟩,
    ⟨(some 40), .move, [.t 39], none⟩,
    ⟨(some 41), .load (some 3), [.t 8], some (40, true)⟩,
    ⟨(some 42), .call 16, [.t 41], some (40, true)⟩,
    ⟨(some 43), .load (some 3), [.t 1], some (40, true)⟩,
    ⟨(some 44), .eqAgg false [.b, .s, .s], [.t 42, .t 43], some (40, true)⟩,
    ⟨(some 45), .pick, [.t 40, .t 44, .c (.bool false)], none⟩,
    ⟨none, .store 3, [.t 2, .t 38], none⟩,
    ⟨(some 3), .move, [.t 45], none⟩] [0, 0, 2, 6, 14, 6, 62, 126, 31, 511]) a19r6
def a19r4 : ACode := .seq (.draw [⟨(some 29), .faddr 0, [.t 1], none⟩,
    ⟨(some 30), .load none, [.t 29], none⟩,
    ⟨(some 31), .load (some 1), [.t 4], none⟩,
    ⟨(some 32), .call 43, [.t 30, .t 31], none⟩,
    ⟨(some 33), .load (some 1), [.t 6], none⟩,
    ⟨(some 34), .call 43, [.c (.bool false), .t 33], none⟩,
    ⟨(some 35), .call 30, [.t 32, .t 34], none⟩,
    ⟨(some 28), .move, [.t 35], none⟩,
    ⟨(some 36), .extract 0, [.t 28], none⟩,
    ⟨(some 37), .extract 1, [.t 28], none⟩,
    ⟨(some 8), .alloc [.nil, .bool false, .nil], [], none⟩,
    ⟨none, .store 3, [.t 8, .t 36], none⟩,
    ⟨(some 5), .move, [.t 37], none⟩] [0, 1, 0, 7, 0, 31, 63, 127, 255, 255, 0, 1535, 4095]) a19r5
def a19r3 : ACode := .seq (.seq (.region [⟨(some 21), .move, [.t 5], none⟩,
     ⟨(some 22), .un .not, [.t 21], none⟩,
     ⟨(some 23), .move, [.t 22], none⟩,
     ⟨(some 24), .move, [.t 7], some (23, false)⟩,
     ⟨(some 25), .un .not, [.t 24], some (23, false)⟩,
     ⟨(some 26), .pick, [.t 23, .c (.bool true), .t 25], none⟩])
  (.cond (.t 26)
    (.seq (.region [⟨(some 27), .build [.nil, .bool false, .nil] [], [], none⟩,
       ⟨none, .store 3, [.t 2, .t 27], none⟩,
       ⟨(some 3), .move, [.c (.bool false)], none⟩])
    (.ret))
    (.skip))) a19r4
def a19r2 : ACode := .seq (.region [⟨(some 16), .faddr 2, [.t 1], none⟩,
    ⟨(some 17), .load none, [.t 16], none⟩,
    ⟨(some 18), .call 42, [.t 17], none⟩,
    ⟨(some 15), .move, [.t 18], none⟩,
    ⟨(some 19), .extract 0, [.t 15], none⟩,
    ⟨(some 20), .extract 1, [.t 15], none⟩,
    ⟨(some 6), .alloc [.nil], [], none⟩,
    ⟨none, .store 1, [.t 6, .t 19], none⟩,
    ⟨(some 7), .move, [.t 20], none⟩]) a19r3
def a19r1 : ACode := .seq (.region [⟨(some 10), .faddr 1, [.t 1], none⟩,
    ⟨(some 11), .load none, [.t 10], none⟩,
    ⟨(some 12), .call 42, [.t 11], none⟩,
    ⟨(some 9), .move, [.t 12], none⟩,
    ⟨(some 13), .extract 0, [.t 9], none⟩,
    ⟨(some 14), .extract 1, [.t 9], none⟩,
    ⟨(some 4), .alloc [.nil], [], none⟩,
    ⟨none, .store 1, [.t 4, .t 13], none⟩,
    ⟨(some 5), .move, [.t 14], none⟩]) a19r2
def a19 : ACode := .seq (.region [⟨(some 1), .box, [.t 0], none⟩,
    ⟨(some 2), .alloc [.nil, .bool false, .nil], [], none⟩,
    ⟨(some 3), .move, [.c (.bool false)], none⟩]) a19r1
theorem t19 : told Try.prog Try.f19 = some (46, a19, [.cell 2 (some 3), .tmp 3]) := by kernel_rfl

def a20r3 : ACode :=
  .ret
def a20r2 : ACode := .seq (.region [⟨(some 2), .move, [.c (.bool false)], none⟩]) a20r3
def a20r1 : ACode := .seq (.seq (.region [⟨(some 3), .move, [.t 0], none⟩])
  (.block 0 (.seq (.seq (.region [⟨(some 5), .bin .eql, [.t 3, .c (.int .i32 60)], none⟩,
       ⟨(some 4), .move, [.t 5], none⟩])
    (.cond (.t 4)
      (.skip)
      (.seq (.region [⟨(some 6), .bin .eql, [.t 3, .c (.int .i32 8804)], none⟩,
         ⟨(some 4), .move, [.t 6], none⟩])
      (.cond (.t 4)
        (.skip)
        (.seq (.region [⟨(some 7), .bin .eql, [.t 3, .c (.int .i32 61)], none⟩,
           ⟨(some 4), .move, [.t 7], none⟩])
        (.cond (.t 4)
          (.skip)
          (.seq (.region [⟨(some 8), .bin .eql, [.t 3, .c (.int .i32 8805)], none⟩,
             ⟨(some 4), .move, [.t 8], none⟩])
          (.cond (.t 4)
            (.skip)
            (.seq (.region [⟨(some 9), .bin .eql, [.t 3, .c (.int .i32 62)], none⟩,
               ⟨(some 4), .move, [.t 9], none⟩])
            (.cond (.t 4)
              (.skip)
              (.region [⟨(some 10), .bin .eql, [.t 3, .c (.int .i32 8800)], none⟩,
                ⟨(some 4), .move, [.t 10], none⟩])))))))))))
   (.cond (.t 4)
     (.seq (.region [⟨(some 2), .move, [.c (.bool true)], none⟩])
     (.ret))
     (.skip))))) a20r2
def a20 : ACode := .seq (.region [⟨(some 2), .move, [.c (.bool false)], none⟩]) a20r1
theorem t20 : told Try.prog Try.f20 = some (11, a20, [.tmp 2]) := by kernel_rfl

def a21r3 : ACode :=
  .ret
def a21r2 : ACode := .seq (.region [⟨(some 5), .build [.nil, .bool false, .nil] [], [], none⟩,
    ⟨none, .store 3, [.t 2, .t 5], none⟩]) a21r3
def a21r1 : ACode := .seq (.seq (.region [⟨(some 3), .move, [.t 0], none⟩])
  (.cond (.t 3)
    (.seq (.region [⟨(some 4), .call 13, [.c (.int .i64 1)], none⟩,
       ⟨none, .store 3, [.t 2, .t 4], none⟩])
    (.ret))
    (.skip))) a21r2
def a21 : ACode := .seq (.region [⟨(some 2), .alloc [.nil, .bool false, .nil], [], none⟩]) a21r1
theorem t21 : told Try.prog Try.f21 = some (6, a21, [.cell 2 (some 3)]) := by kernel_rfl

def a22r3 : ACode :=
  .ret
def a22r2 : ACode := .seq (.region [⟨(some 2), .move, [.c (.bool false)], none⟩]) a22r3
def a22r1 : ACode := .seq (.seq (.region [⟨(some 3), .move, [.t 0], none⟩])
  (.block 0 (.seq (.seq (.region [⟨(some 5), .bin .eql, [.t 3, .c (.int .i32 8743)], none⟩,
       ⟨(some 4), .move, [.t 5], none⟩])
    (.cond (.t 4)
      (.skip)
      (.seq (.region [⟨(some 6), .bin .eql, [.t 3, .c (.int .i32 8744)], none⟩,
         ⟨(some 4), .move, [.t 6], none⟩])
      (.cond (.t 4)
        (.skip)
        (.seq (.region [⟨(some 7), .bin .eql, [.t 3, .c (.int .i32 9074)], none⟩,
           ⟨(some 4), .move, [.t 7], none⟩])
        (.cond (.t 4)
          (.skip)
          (.region [⟨(some 8), .bin .eql, [.t 3, .c (.int .i32 9073)], none⟩,
            ⟨(some 4), .move, [.t 8], none⟩])))))))
   (.cond (.t 4)
     (.seq (.region [⟨(some 2), .move, [.c (.bool true)], none⟩])
     (.ret))
     (.skip))))) a22r2
def a22 : ACode := .seq (.region [⟨(some 2), .move, [.c (.bool false)], none⟩]) a22r1
theorem t22 : told Try.prog Try.f22 = some (9, a22, [.tmp 2]) := by kernel_rfl

def a23r6 : ACode :=
  .ret
def a23r5 : ACode := .seq (.region [⟨(some 67), .move, [.t 8], none⟩,
    ⟨(some 68), .move, [.t 10], none⟩,
    ⟨(some 69), .bin .add, [.t 67, .t 68], none⟩,
    ⟨(some 70), .bin .eql, [.t 69, .c (.int .i64 0)], none⟩,
    ⟨(some 71), .call 21, [.t 70], none⟩,
    ⟨none, .store 3, [.t 6, .t 71], none⟩,
    ⟨(some 7), .move, [.c (.int .i64 0)], none⟩]) a23r6
def a23r4 : ACode := .seq (.seq (.region [⟨(some 45), .move, [.t 0], none⟩])
  (.block 0 (.seq (.region [⟨(some 47), .bin .eql, [.t 45, .c (.int .i32 8743)], none⟩,
      ⟨(some 46), .move, [.t 47], none⟩])
   (.cond (.t 46)
     (.seq (.region [⟨(some 48), .move, [.t 8], none⟩,
        ⟨(some 49), .move, [.t 10], none⟩,
        ⟨(some 50), .bin .add, [.t 48, .t 49], none⟩,
        ⟨(some 51), .bin .eql, [.t 50, .c (.int .i64 2)], none⟩,
        ⟨(some 52), .call 21, [.t 51], none⟩,
        ⟨none, .store 3, [.t 6, .t 52], none⟩,
        ⟨(some 7), .move, [.c (.int .i64 0)], none⟩])
     (.ret))
     (.seq (.region [⟨(some 54), .bin .eql, [.t 45, .c (.int .i32 8744)], none⟩,
        ⟨(some 53), .move, [.t 54], none⟩])
     (.cond (.t 53)
       (.seq (.region [⟨(some 55), .move, [.t 8], none⟩,
          ⟨(some 56), .move, [.t 10], none⟩,
          ⟨(some 57), .bin .add, [.t 55, .t 56], none⟩,
          ⟨(some 58), .bin .gtr, [.t 57, .c (.int .i64 0)], none⟩,
          ⟨(some 59), .call 21, [.t 58], none⟩,
          ⟨none, .store 3, [.t 6, .t 59], none⟩,
          ⟨(some 7), .move, [.c (.int .i64 0)], none⟩])
       (.ret))
       (.seq (.region [⟨(some 61), .bin .eql, [.t 45, .c (.int .i32 9074)], none⟩,
          ⟨(some 60), .move, [.t 61], none⟩])
       (.cond (.t 60)
         (.seq (.region [⟨(some 62), .move, [.t 8], none⟩,
            ⟨(some 63), .move, [.t 10], none⟩,
            ⟨(some 64), .bin .add, [.t 62, .t 63], none⟩,
            ⟨(some 65), .bin .lss, [.t 64, .c (.int .i64 2)], none⟩,
            ⟨(some 66), .call 21, [.t 65], none⟩,
            ⟨none, .store 3, [.t 6, .t 66], none⟩,
            ⟨(some 7), .move, [.c (.int .i64 0)], none⟩])
         (.ret))
         (.skip))))))))) a23r5
def a23r3 : ACode := .seq (.seq (.region [⟨(some 22), .move, [.t 9], none⟩,
     ⟨(some 23), .un .not, [.t 22], none⟩,
     ⟨(some 24), .move, [.t 23], none⟩,
     ⟨(some 25), .move, [.t 11], some (24, false)⟩,
     ⟨(some 26), .un .not, [.t 25], some (24, false)⟩,
     ⟨(some 27), .pick, [.t 24, .c (.bool true), .t 26], none⟩,
     ⟨(some 28), .move, [.t 27], none⟩,
     ⟨(some 29), .move, [.t 8], some (28, false)⟩,
     ⟨(some 30), .bin .lss, [.t 29, .c (.int .i64 0)], some (28, false)⟩,
     ⟨(some 31), .pick, [.t 28, .c (.bool true), .t 30], none⟩,
     ⟨(some 32), .move, [.t 31], none⟩,
     ⟨(some 33), .move, [.t 8], some (32, false)⟩,
     ⟨(some 34), .bin .gtr, [.t 33, .c (.int .i64 1)], some (32, false)⟩,
     ⟨(some 35), .pick, [.t 32, .c (.bool true), .t 34], none⟩,
     ⟨(some 36), .move, [.t 35], none⟩,
     ⟨(some 37), .move, [.t 10], some (36, false)⟩,
     ⟨(some 38), .bin .lss, [.t 37, .c (.int .i64 0)], some (36, false)⟩,
     ⟨(some 39), .pick, [.t 36, .c (.bool true), .t 38], none⟩,
     ⟨(some 40), .move, [.t 39], none⟩,
     ⟨(some 41), .move, [.t 10], some (40, false)⟩,
     ⟨(some 42), .bin .gtr, [.t 41, .c (.int .i64 1)], some (40, false)⟩,
     ⟨(some 43), .pick, [.t 40, .c (.bool true), .t 42], none⟩])
  (.cond (.t 43)
    (.seq (.region [⟨(some 44), .build [.nil, .bool false, .nil] [], [], none⟩,
       ⟨none, .store 3, [.t 6, .t 44], none⟩,
       ⟨(some 7), .move, [.c (.int .i64 22)], none⟩])
    (.ret))
    (.skip))) a23r4
def a23r2 : ACode := .seq (.region [⟨(some 18), .load (some 3), [.t 5], none⟩,
    ⟨(some 19), .call 44, [.t 18], none⟩,
    ⟨(some 17), .move, [.t 19], none⟩,
    ⟨(some 20), .extract 0, [.t 17], none⟩,
    ⟨(some 21), .extract 1, [.t 17], none⟩,
    ⟨(some 10), .move, [.t 20], none⟩,
    ⟨(some 11), .move, [.t 21], none⟩]) a23r3
def a23r1 : ACode := .seq (.region [⟨(some 13), .load (some 3), [.t 4], none⟩,
    ⟨(some 14), .call 44, [.t 13], none⟩,
    ⟨(some 12), .move, [.t 14], none⟩,
    ⟨(some 15), .extract 0, [.t 12], none⟩,
    ⟨(some 16), .extract 1, [.t 12], none⟩,
    ⟨(some 8), .move, [.t 15], none⟩,
    ⟨(some 9), .move, [.t 16], none⟩]) a23r2
def a23 : ACode := .seq (.region [⟨(some 4), .box, [.t 1], none⟩,
    ⟨(some 5), .box, [.t 2], none⟩,
    ⟨(some 6), .alloc [.nil, .bool false, .nil], [], none⟩,
    ⟨(some 7), .move, [.c (.int .i64 0)], none⟩]) a23r1
theorem t23 : told Try.prog Try.f23 = some (72, a23, [.cell 6 (some 3), .tmp 7]) := by kernel_rfl

def a24r3 : ACode :=
  .ret
def a24r2 : ACode := .seq (.region [⟨(some 2), .move, [.c (.bool false)], none⟩]) a24r3
def a24r1 : ACode := .seq (.seq (.region [⟨(some 3), .move, [.t 0], none⟩])
  (.block 0 (.seq (.seq (.region [⟨(some 5), .bin .eql, [.t 3, .c (.int .i32 43)], none⟩,
       ⟨(some 4), .move, [.t 5], none⟩])
    (.cond (.t 4)
      (.skip)
      (.seq (.region [⟨(some 6), .bin .eql, [.t 3, .c (.int .i32 45)], none⟩,
         ⟨(some 4), .move, [.t 6], none⟩])
      (.cond (.t 4)
        (.skip)
        (.seq (.region [⟨(some 7), .bin .eql, [.t 3, .c (.int .i32 215)], none⟩,
           ⟨(some 4), .move, [.t 7], none⟩])
        (.cond (.t 4)
          (.skip)
          (.seq (.region [⟨(some 8), .bin .eql, [.t 3, .c (.int .i32 247)], none⟩,
             ⟨(some 4), .move, [.t 8], none⟩])
          (.cond (.t 4)
            (.skip)
            (.seq (.region [⟨(some 9), .bin .eql, [.t 3, .c (.int .i32 8968)], none⟩,
               ⟨(some 4), .move, [.t 9], none⟩])
            (.cond (.t 4)
              (.skip)
              (.seq (.region [⟨(some 10), .bin .eql, [.t 3, .c (.int .i32 8970)], none⟩,
                 ⟨(some 4), .move, [.t 10], none⟩])
              (.cond (.t 4)
                (.skip)
                (.seq (.region [⟨(some 11), .bin .eql, [.t 3, .c (.int .i32 124)], none⟩,
                   ⟨(some 4), .move, [.t 11], none⟩])
                (.cond (.t 4)
                  (.skip)
                  (.seq (.region [⟨(some 12), .bin .eql, [.t 3, .c (.int .i32 42)], none⟩,
                     ⟨(some 4), .move, [.t 12], none⟩])
                  (.cond (.t 4)
                    (.skip)
                    (.seq (.region [⟨(some 13), .bin .eql, [.t 3, .c (.int .i32 33)], none⟩,
                       ⟨(some 4), .move, [.t 13], none⟩])
                    (.cond (.t 4)
                      (.skip)
                      (.seq (.region [⟨(some 14), .bin .eql, [.t 3, .c (.int .i32 9055)], none⟩,
                         ⟨(some 4), .move, [.t 14], none⟩])
                      (.cond (.t 4)
                        (.skip)
                        (.region [⟨(some 15), .bin .eql, [.t 3, .c (.int .i32 9675)], none⟩,
                          ⟨(some 4), .move, [.t 15], none⟩])))))))))))))))))))))
   (.cond (.t 4)
     (.seq (.region [⟨(some 2), .move, [.c (.bool true)], none⟩])
     (.ret))
     (.skip))))) a24r2
def a24 : ACode := .seq (.region [⟨(some 2), .move, [.c (.bool false)], none⟩]) a24r1
theorem t24 : told Try.prog Try.f24 = some (16, a24, [.tmp 2]) := by kernel_rfl

def a25r3 : ACode :=
  .ret
def a25r2 : ACode := .seq (.region [⟨(some 90), .build [.nil, .bool false, .nil] [], [], none⟩,
    ⟨none, .store 3, [.t 8, .t 90], none⟩,
    ⟨(some 9), .move, [.c (.int .i64 22)], none⟩]) a25r3
def a25r1 : ACode := .seq (.seq (.region [⟨(some 12), .move, [.t 0], none⟩])
  (.block 0 (.seq (.region [⟨(some 14), .bin .eql, [.t 12, .c (.int .i32 43)], none⟩,
      ⟨(some 13), .move, [.t 14], none⟩])
   (.cond (.t 13)
     (.seq (.region [⟨(some 15), .load (some 3), [.t 5], none⟩,
        ⟨(some 16), .load (some 3), [.t 6], none⟩,
        ⟨(some 17), .buildSl 32 3, [.t 16], none⟩,
        ⟨(some 18), .call 12, [.t 15, .t 17], none⟩,
        ⟨none, .store 3, [.t 8, .t 18], none⟩,
        ⟨(some 9), .move, [.c (.int .i64 0)], none⟩])
     (.ret))
     (.seq (.region [⟨(some 20), .bin .eql, [.t 12, .c (.int .i32 45)], none⟩,
        ⟨(some 19), .move, [.t 20], none⟩])
     (.cond (.t 19)
       (.seq (.draw [⟨(some 21), .load (some 3), [.t 5], none⟩,
          ⟨(some 22), .load (some 3), [.t 6], none⟩,
          ⟨(some 23), .call 45, [.t 22], none⟩,
          ⟨(some 24), .buildSl 32 3, [.t 23], none⟩,
          ⟨(some 25), .call 12, [.t 21, .t 24], none⟩,
          ⟨none, .store 3, [.t 8, .t 25], none⟩,
          ⟨(some 9), .move, [.c (.int .i64 0)], none⟩] [0, 0, 2, 6, 15, 31, 63])
       (.ret))
       (.seq (.region [⟨(some 27), .bin .eql, [.t 12, .c (.int .i32 215)], none⟩,
          ⟨(some 26), .move, [.t 27], none⟩])
       (.cond (.t 26)
         (.seq (.region [⟨(some 28), .load (some 3), [.t 5], none⟩,
            ⟨(some 29), .load (some 3), [.t 6], none⟩,
            ⟨(some 30), .buildSl 32 3, [.t 29], none⟩,
            ⟨(some 31), .call 14, [.t 28, .t 30], none⟩,
            ⟨none, .store 3, [.t 8, .t 31], none⟩,
            ⟨(some 9), .move, [.c (.int .i64 0)], none⟩])
         (.ret))
         (.seq (.region [⟨(some 33), .bin .eql, [.t 12, .c (.int .i32 247)], none⟩,
            ⟨(some 32), .move, [.t 33], none⟩])
         (.cond (.t 32)
           (.seq (.seq (.region [⟨(some 34), .load (some 3), [.t 5], none⟩,
               ⟨(some 35), .call 15, [.t 34], none⟩,
               ⟨(some 36), .bin .eql, [.t 35, .c (.int .i64 0)], none⟩,
               ⟨(some 37), .move, [.t 36], none⟩,
               ⟨(some 38), .load (some 3), [.t 6], some (37, true)⟩,
               ⟨(some 39), .call 15, [.t 38], some (37, true)⟩,
               ⟨(some 40), .bin .eql, [.t 39, .c (.int .i64 0)], some (37, true)⟩,
               ⟨(some 41), .pick, [.t 37, .t 40, .c (.bool false)], none⟩])
            (.cond (.t 41)
              (.seq (.region [⟨(some 42), .call 13, [.c (.int .i64 1)], none⟩,
                 ⟨none, .store 3, [.t 8, .t 42], none⟩,
                 ⟨(some 9), .move, [.c (.int .i64 0)], none⟩])
              (.ret))
              (.skip)))
           (.seq (.region [⟨(some 44), .load (some 3), [.t 5], none⟩,
              ⟨(some 45), .load (some 3), [.t 6], none⟩,
              ⟨(some 46), .call 46, [.t 44, .t 45], none⟩,
              ⟨(some 43), .move, [.t 46], none⟩,
              ⟨(some 47), .extract 0, [.t 43], none⟩,
              ⟨(some 48), .extract 1, [.t 43], none⟩,
              ⟨(some 10), .alloc [.nil, .bool false, .nil], [], none⟩,
              ⟨none, .store 3, [.t 10, .t 47], none⟩,
              ⟨(some 11), .move, [.t 48], none⟩])
           (.seq (.seq (.region [⟨(some 49), .move, [.t 11], none⟩,
               ⟨(some 50), .un .not, [.t 49], none⟩])
            (.cond (.t 50)
              (.seq (.region [⟨(some 51), .load (some 3), [.t 10], none⟩,
                 ⟨none, .store 3, [.t 8, .t 51], none⟩,
                 ⟨(some 9), .move, [.c (.int .i64 22)], none⟩])
              (.ret))
              (.skip)))
           (.seq (.region [⟨(some 52), .load (some 3), [.t 10], none⟩,
              ⟨none, .store 3, [.t 8, .t 52], none⟩,
              ⟨(some 9), .move, [.c (.int .i64 0)], none⟩])
           (.ret)))))
           (.seq (.region [⟨(some 54), .bin .eql, [.t 12, .c (.int .i32 8968)], none⟩,
              ⟨(some 53), .move, [.t 54], none⟩])
           (.cond (.t 53)
             (.seq (.seq (.region [⟨(some 55), .load (some 3), [.t 5], none⟩,
                 ⟨(some 56), .load (some 3), [.t 6], none⟩,
                 ⟨(some 57), .call 11, [.t 55, .t 56], none⟩,
                 ⟨(some 58), .bin .lss, [.t 57, .c (.int .i64 0)], none⟩])
              (.cond (.t 58)
                (.seq (.region [⟨(some 59), .load (some 3), [.t 6], none⟩,
                   ⟨none, .store 3, [.t 8, .t 59], none⟩,
                   ⟨(some 9), .move, [.c (.int .i64 0)], none⟩])
                (.ret))
                (.skip)))
             (.seq (.region [⟨(some 60), .load (some 3), [.t 5], none⟩,
                ⟨none, .store 3, [.t 8, .t 60], none⟩,
                ⟨(some 9), .move, [.c (.int .i64 0)], none⟩])
             (.ret)))
             (.seq (.region [⟨(some 62), .bin .eql, [.t 12, .c (.int .i32 8970)], none⟩,
                ⟨(some 61), .move, [.t 62], none⟩])
             (.cond (.t 61)
               (.seq (.seq (.region [⟨(some 63), .load (some 3), [.t 5], none⟩,
                   ⟨(some 64), .load (some 3), [.t 6], none⟩,
                   ⟨(some 65), .call 11, [.t 63, .t 64], none⟩,
                   ⟨(some 66), .bin .gtr, [.t 65, .c (.int .i64 0)], none⟩])
                (.cond (.t 66)
                  (.seq (.region [⟨(some 67), .load (some 3), [.t 6], none⟩,
                     ⟨none, .store 3, [.t 8, .t 67], none⟩,
                     ⟨(some 9), .move, [.c (.int .i64 0)], none⟩])
                  (.ret))
                  (.skip)))
               (.seq (.region [⟨(some 68), .load (some 3), [.t 5], none⟩,
                  ⟨none, .store 3, [.t 8, .t 68], none⟩,
                  ⟨(some 9), .move, [.c (.int .i64 0)], none⟩])
               (.ret)))
               (.seq (.region [⟨(some 70), .bin .eql, [.t 12, .c (.int .i32 124)], none⟩,
                  ⟨(some 69), .move, [.t 70], none⟩])
               (.cond (.t 69)
                 (.seq (.region [⟨(some 71), .load (some 3), [.t 5], none⟩,
                    ⟨(some 72), .load (some 3), [.t 6], none⟩,
                    ⟨(some 73), .call 47, [.t 71, .t 72], none⟩,
                    ⟨none, .store 3, [.t 8, .t 73], none⟩,
                    ⟨(some 9), .move, [.c (.int .i64 0)], none⟩])
                 (.ret))
                 (.seq (.region [⟨(some 75), .bin .eql, [.t 12, .c (.int .i32 42)], none⟩,
                    ⟨(some 74), .move, [.t 75], none⟩])
                 (.cond (.t 74)
                   (.seq (.region [⟨(some 76), .load (some 3), [.t 5], none⟩,
                      ⟨(some 77), .load (some 3), [.t 6], none⟩,
                      ⟨(some 78), .move, [.t 3], none⟩,
                      ⟨(some 79), .call 48, [.t 76, .t 77, .t 78], none⟩,
                      ⟨(some 80), .extract 0, [.t 79], none⟩,
                      ⟨(some 81), .extract 1, [.t 79], none⟩,
                      ⟨none, .store 3, [.t 8, .t 80], none⟩,
                      ⟨(some 9), .move, [.t 81], none⟩])
                   (.ret))
                   (.seq (.region [⟨(some 83), .bin .eql, [.t 12, .c (.int .i32 33)], none⟩,
                      ⟨(some 82), .move, [.t 83], none⟩])
                   (.cond (.t 82)
                     (.seq (.region [⟨(some 84), .load (some 3), [.t 5], none⟩,
                        ⟨(some 85), .load (some 3), [.t 6], none⟩,
                        ⟨(some 86), .move, [.t 3], none⟩,
                        ⟨(some 87), .call 49, [.t 84, .t 85, .t 86], none⟩,
                        ⟨(some 88), .extract 0, [.t 87], none⟩,
                        ⟨(some 89), .extract 1, [.t 87], none⟩,
                        ⟨none, .store 3, [.t 8, .t 88], none⟩,
                        ⟨(some 9), .move, [.t 89], none⟩])
                     (.ret))
                     (.skip))))))))))))))))))))) a25r2
def a25 : ACode := .seq (.region [⟨(some 5), .box, [.t 1], none⟩,
    ⟨(some 6), .box, [.t 2], none⟩,
    ⟨(some 8), .alloc [.nil, .bool false, .nil], [], none⟩,
    ⟨(some 9), .move, [.c (.int .i64 0)], none⟩]) a25r1
theorem t25 : told Try.prog Try.f25 = some (91, a25, [.cell 8 (some 3), .tmp 9]) := by kernel_rfl

def a26r2 : ACode :=
  .ret
def a26r1 : ACode := .seq (.draw [⟨(some 3), .faddr 0, [.t 1], none⟩,
    ⟨(some 4), .faddr 0, [.t 3], none⟩,
    ⟨(some 5), .load (some 1), [.t 4], none⟩,
    ⟨(some 6), .call 50, [.t 5], none⟩,
    ⟨(some 7), .load (some 3), [.t 1], none⟩,
    ⟨(some 8), .call 37, [.t 7], none⟩,
    ⟨(some 9), .call 50, [.t 8], none⟩,
    ⟨(some 10), .max, [.t 6, .t 9], none⟩,
    ⟨(some 2), .move, [.t 10], none⟩] [0, 1, 3, 7, 0, 31, 63, 127, 255]) a26r2
def a26 : ACode := .seq (.region [⟨(some 1), .box, [.t 0], none⟩,
    ⟨(some 2), .move, [.c (.int .i64 0)], none⟩]) a26r1
theorem t26 : told Try.prog Try.f26 = some (11, a26, [.tmp 2]) := by kernel_rfl

def a27r3 : ACode :=
  .ret
def a27r2 : ACode := .seq (.region [⟨(some 25), .load (some 2), [.t 2], none⟩,
    ⟨none, .store 2, [.t 4, .t 25], none⟩]) a27r3
def a27r1 : ACode := .seq (.seq (.region [⟨(some 7), .move, [.t 1], none⟩,
     ⟨(some 8), .lenL, [.t 7], none⟩,
     ⟨(some 9), .move, [.c (.int .i64 0)], none⟩])
  (.block 0 (.loop (.seq (.region [⟨(some 10), .bin .lss, [.t 9, .t 8], none⟩])
    (.seq (.cond (.t 10)
       (.skip)
       (.exit 0))
    (.seq (.block 1 (.seq (.region [⟨(some 11), .iaddr 2, [.t 7, .t 9], none⟩,
         ⟨(some 12), .load (some 2), [.t 11], none⟩,
         ⟨(some 6), .alloc [.nil, .bool false], [], none⟩,
         ⟨none, .store 2, [.t 6, .t 12], none⟩])
      (.draw [⟨(some 13), .faddr 1, [.t 2], none⟩,
        ⟨(some 14), .load none, [.t 13], none⟩,
        ⟨(some 15), .faddr 1, [.t 6], none⟩,
        ⟨(some 16), .load none, [.t 15], none⟩,
        ⟨(some 17), .binB true, [.t 14, .t 16], none⟩,
        ⟨(some 18), .faddr 0, [.t 2], none⟩,
        ⟨(some 19), .load (some 1), [.t 18], none⟩,
        ⟨(some 20), .faddr 0, [.t 6], none⟩,
        ⟨(some 21), .load (some 1), [.t 20], none⟩,
        ⟨(some 22), .call 51, [.t 19, .t 21], none⟩,
        ⟨(some 23), .call 43, [.t 17, .t 22], none⟩,
        ⟨none, .store 2, [.t 2, .t 23], none⟩] [0, 1, 0, 4, 15, 0, 32, 0, 128, 480, 1023, 2047])))
    (.region [⟨(some 24), .bin .add, [.t 9, .c (.int .i64 1)], none⟩,
      ⟨(some 9), .move, [.t 24], none⟩]))))))) a27r2
def a27 : ACode := .seq (.region [⟨(some 2), .box, [.t 0], none⟩,
    ⟨(some 4), .alloc [.nil, .bool false], [], none⟩]) a27r1
theorem t27 : told Try.prog Try.f27 = some (26, a27, [.cell 4 (some 2)]) := by kernel_rfl

def a28r2 : ACode :=
  .ret
def a28r1 : ACode := .seq (.region [⟨(some 3), .load (some 3), [.t 1], none⟩,
    ⟨(some 4), .call 37, [.t 3], none⟩,
    ⟨(some 5), .call 43, [.c (.bool false), .t 4], none⟩,
    ⟨none, .store 2, [.t 2, .t 5], none⟩]) a28r2
def a28 : ACode := .seq (.region [⟨(some 1), .box, [.t 0], none⟩,
    ⟨(some 2), .alloc [.nil, .bool false], [], none⟩]) a28r1
theorem t28 : told Try.prog Try.f28 = some (6, a28, [.cell 2 (some 2)]) := by kernel_rfl

def a29r3 : ACode :=
  .ret
def a29r2 : ACode := .seq (.region [⟨(some 29), .faddr 0, [.t 2], none⟩,
    ⟨(some 30), .load (some 1), [.t 29], none⟩,
    ⟨(some 31), .faddr 0, [.t 3], none⟩,
    ⟨(some 32), .load (some 1), [.t 31], none⟩,
    ⟨(some 33), .call 52, [.t 30, .t 32], none⟩,
    ⟨(some 4), .move, [.t 33], none⟩]) a29r3
def a29r1 : ACode := .seq (.block 0 (.seq (.region [⟨(some 6), .faddr 1, [.t 2], none⟩,
      ⟨(some 7), .load none, [.t 6], none⟩,
      ⟨(some 8), .move, [.t 7], none⟩,
      ⟨(some 9), .faddr 1, [.t 3], some (8, true)⟩,
      ⟨(some 10), .load none, [.t 9], some (8, true)⟩,
      ⟨(some 11), .un .not, [.t 10], some (8, true)⟩,
      ⟨(some 12), .pick, [.t 8, .t 11, .c (.bool false)], none⟩,
      ⟨(some 5), .move, [.t 12], none⟩])
   (.cond (.t 5)
     (.seq (.region [⟨(some 4), .move, [.c (.int .i64 (-1))], none⟩])
     (.ret))
     (.seq (.region [⟨(some 14), .faddr 1, [.t 2], none⟩,
        ⟨(some 15), .load none, [.t 14], none⟩,
        ⟨(some 16), .un .not, [.t 15], none⟩,
        ⟨(some 17), .move, [.t 16], none⟩,
        ⟨(some 18), .faddr 1, [.t 3], some (17, true)⟩,
        ⟨(some 19), .load none, [.t 18], some (17, true)⟩,
        ⟨(some 20), .pick, [.t 17, .t 19, .c (.bool false)], none⟩,
        ⟨(some 13), .move, [.t 20], none⟩])
     (.cond (.t 13)
       (.seq (.region [⟨(some 4), .move, [.c (.int .i64 1)], none⟩])
       (.ret))
       (.seq (.region [⟨(some 22), .faddr 1, [.t 2], none⟩,
          ⟨(some 23), .load none, [.t 22], none⟩,
          ⟨(some 21), .move, [.t 23], none⟩])
       (.cond (.t 21)
         (.seq (.region [⟨(some 24), .faddr 0, [.t 3], none⟩,
            ⟨(some 25), .load (some 1), [.t 24], none⟩,
            ⟨(some 26), .faddr 0, [.t 2], none⟩,
            ⟨(some 27), .load (some 1), [.t 26], none⟩,
            ⟨(some 28), .call 52, [.t 25, .t 27], none⟩,
            ⟨(some 4), .move, [.t 28], none⟩])
         (.ret))
         (.skip)))))))) a29r2
def a29 : ACode := .seq (.region [⟨(some 2), .box, [.t 0], none⟩,
    ⟨(some 3), .box, [.t 1], none⟩,
    ⟨(some 4), .move, [.c (.int .i64 0)], none⟩]) a29r1
theorem t29 : told Try.prog Try.f29 = some (34, a29, [.tmp 4]) := by kernel_rfl

def a30r6 : ACode :=
  .ret
def a30r5 : ACode := .seq (.draw [⟨(some 38), .load (some 2), [.t 2], none⟩,
    ⟨(some 39), .call 35, [.t 38], none⟩,
    ⟨(some 40), .load (some 2), [.t 3], none⟩,
    ⟨(some 41), .call 35, [.t 40], none⟩,
    ⟨(some 42), .binB true, [.t 39, .t 41], none⟩,
    ⟨(some 43), .load (some 1), [.t 7], none⟩,
    ⟨(some 44), .call 43, [.t 42, .t 43], none⟩,
    ⟨(some 45), .load (some 1), [.t 10], none⟩,
    ⟨(some 46), .build [.nil, .bool false, .nil] [(0, 2), (2, 1)], [.t 44, .t 45], none⟩,
    ⟨none, .store 3, [.t 4, .t 46], none⟩,
    ⟨(some 5), .move, [.c (.bool true)], none⟩] [0, 1, 0, 7, 15, 0, 63, 0, 255, 511, 1023]) a30r6
def a30r4 : ACode := .seq (.region [⟨(some 31), .faddr 0, [.t 3], none⟩,
    ⟨(some 32), .load (some 1), [.t 31], none⟩,
    ⟨(some 33), .load (some 1), [.t 6], none⟩,
    ⟨(some 34), .call 56, [.t 32, .t 33], none⟩,
    ⟨(some 30), .move, [.t 34], none⟩,
    ⟨(some 35), .extract 0, [.t 30], none⟩,
    ⟨(some 36), .extract 1, [.t 30], none⟩,
    ⟨(some 37), .extract 2, [.t 30], none⟩,
    ⟨(some 10), .alloc [.nil], [], none⟩,
    ⟨(some 11), .alloc [.nil], [], none⟩,
    ⟨none, .store 1, [.t 10, .t 35], none⟩,
    ⟨none, .store 1, [.t 11, .t 36], none⟩,
    ⟨(some 12), .move, [.t 37], none⟩]) a30r5
def a30r3 : ACode := .seq (.region [⟨(some 23), .faddr 0, [.t 2], none⟩,
    ⟨(some 24), .load (some 1), [.t 23], none⟩,
    ⟨(some 25), .load (some 1), [.t 6], none⟩,
    ⟨(some 26), .call 56, [.t 24, .t 25], none⟩,
    ⟨(some 22), .move, [.t 26], none⟩,
    ⟨(some 27), .extract 0, [.t 22], none⟩,
    ⟨(some 28), .extract 1, [.t 22], none⟩,
    ⟨(some 29), .extract 2, [.t 22], none⟩,
    ⟨(some 7), .alloc [.nil], [], none⟩,
    ⟨(some 8), .alloc [.nil], [], none⟩,
    ⟨none, .store 1, [.t 7, .t 27], none⟩,
    ⟨none, .store 1, [.t 8, .t 28], none⟩,
    ⟨(some 9), .move, [.t 29], none⟩]) a30r4
def a30r2 : ACode := .seq (.draw [⟨(some 17), .faddr 0, [.t 2], none⟩,
    ⟨(some 18), .load (some 1), [.t 17], none⟩,
    ⟨(some 19), .load (some 2), [.t 3], none⟩,
    ⟨(some 20), .call 55, [.t 19], none⟩,
    ⟨(some 21), .call 54, [.t 18, .t 20], none⟩,
    ⟨(some 6), .alloc [.nil], [], none⟩,
    ⟨none, .store 1, [.t 6, .t 21], none⟩] [0, 1, 0, 4, 15, 0, 63]) a30r3
def a30r1 : ACode := .seq (.seq (.region [⟨(some 13), .faddr 0, [.t 3], none⟩,
     ⟨(some 14), .load (some 1), [.t 13], none⟩,
     ⟨(some 15), .call 53, [.t 14], none⟩])
  (.cond (.t 15)
    (.seq (.region [⟨(some 16), .build [.nil, .bool false, .nil] [], [], none⟩,
       ⟨none, .store 3, [.t 4, .t 16], none⟩,
       ⟨(some 5), .move, [.c (.bool false)], none⟩])
    (.ret))
    (.skip))) a30r2
def a30 : ACode := .seq (.region [⟨(some 2), .box, [.t 0], none⟩,
    ⟨(some 3), .box, [.t 1], none⟩,
    ⟨(some 4), .alloc [.nil, .bool false, .nil], [], none⟩,
    ⟨(some 5), .move, [.c (.bool false)], none⟩]) a30r1
theorem t30 : told Try.prog Try.f30 = some (47, a30, [.cell 4 (some 3), .tmp 5]) := by kernel_rfl

def a31r3 : ACode :=
  .ret
def a31r2 : ACode := .seq (.region [⟨(some 17), .load (some 2), [.t 2], none⟩,
    ⟨none, .store 2, [.t 4, .t 17], none⟩]) a31r3
def a31r1 : ACode := .seq (.seq (.region [⟨(some 7), .move, [.t 1], none⟩,
     ⟨(some 8), .lenL, [.t 7], none⟩,
     ⟨(some 9), .move, [.c (.int .i64 0)], none⟩])
  (.block 0 (.loop (.seq (.region [⟨(some 10), .bin .lss, [.t 9, .t 8], none⟩])
    (.seq (.cond (.t 10)
       (.skip)
       (.exit 0))
    (.seq (.block 1 (.seq (.region [⟨(some 11), .iaddr 2, [.t 7, .t 9], none⟩,
         ⟨(some 12), .load (some 2), [.t 11], none⟩,
         ⟨(some 6), .alloc [.nil, .bool false], [], none⟩,
         ⟨none, .store 2, [.t 6, .t 12], none⟩])
      (.region [⟨(some 13), .load (some 2), [.t 2], none⟩,
        ⟨(some 14), .load (some 2), [.t 6], none⟩,
        ⟨(some 15), .call 57, [.t 13, .t 14], none⟩,
        ⟨none, .store 2, [.t 2, .t 15], none⟩])))
    (.region [⟨(some 16), .bin .add, [.t 9, .c (.int .i64 1)], none⟩,
      ⟨(some 9), .move, [.t 16], none⟩]))))))) a31r2
def a31 : ACode := .seq (.region [⟨(some 2), .box, [.t 0], none⟩,
    ⟨(some 4), .alloc [.nil, .bool false], [], none⟩]) a31r1
theorem t31 : told Try.prog Try.f31 = some (18, a31, [.cell 4 (some 2)]) := by kernel_rfl

def a32r3 : ACode :=
  .ret
def a32r2 : ACode := .seq (.region [⟨(some 12), .move, [.t 0], none⟩,
    ⟨(some 13), .toInt .u64, [.t 12], none⟩,
    ⟨(some 14), .call 33, [.t 13], none⟩,
    ⟨(some 15), .build [.nil, .bool false] [(0, 1), (1, 1)], [.t 14, .c (.bool false)], none⟩,
    ⟨none, .store 2, [.t 2, .t 15], none⟩]) a32r3
def a32r1 : ACode := .seq (.seq (.region [⟨(some 3), .move, [.t 0], none⟩,
     ⟨(some 4), .bin .lss, [.t 3, .c (.int .i64 0)], none⟩])
  (.cond (.t 4)
    (.seq (.region [⟨(some 5), .move, [.t 0], none⟩,
       ⟨(some 6), .bin .add, [.t 5, .c (.int .i64 1)], none⟩,
       ⟨(some 7), .un .neg, [.t 6], none⟩,
       ⟨(some 8), .toInt .u64, [.t 7], none⟩,
       ⟨(some 9), .bin .add, [.t 8, .c (.int .u64 1)], none⟩,
       ⟨(some 10), .call 33, [.t 9], none⟩,
       ⟨(some 11), .build [.nil, .bool false] [(0, 1), (1, 1)], [.t 10, .c (.bool true)], none⟩,
       ⟨none, .store 2, [.t 2, .t 11], none⟩])
    (.ret))
    (.skip))) a32r2
def a32 : ACode := .seq (.region [⟨(some 2), .alloc [.nil, .bool false], [], none⟩]) a32r1
theorem t32 : told Try.prog Try.f32 = some (16, a32, [.cell 2 (some 2)]) := by kernel_rfl

def a33r2 : ACode :=
  .ret
def a33r1 : ACode := .seq (.region [⟨(some 3), .move, [.t 0], none⟩,
    ⟨(some 4), .toInt .u32, [.t 3], none⟩,
    ⟨(some 5), .move, [.t 0], none⟩,
    ⟨(some 6), .bin .shr, [.t 5, .c (.int .u64 32)], none⟩,
    ⟨(some 7), .toInt .u32, [.t 6], none⟩,
    ⟨(some 8), .buildSl 83 1, [.t 4, .t 7], none⟩,
    ⟨(some 9), .call 58, [.t 8], none⟩,
    ⟨none, .store 1, [.t 2, .t 9], none⟩]) a33r2
def a33 : ACode := .seq (.region [⟨(some 2), .alloc [.nil], [], none⟩]) a33r1
theorem t33 : told Try.prog Try.f33 = some (10, a33, [.cell 2 (some 1)]) := by kernel_rfl

def a34r3 : ACode :=
  .ret
def a34r2 : ACode := .seq (.region [⟨(some 2), .move, [.c (.int .i64 1)], none⟩]) a34r3
def a34r1 : ACode := .seq (.block 0 (.seq (.region [⟨(some 4), .faddr 0, [.t 1], none⟩,
      ⟨(some 5), .load (some 1), [.t 4], none⟩,
      ⟨(some 6), .call 53, [.t 5], none⟩,
      ⟨(some 3), .move, [.t 6], none⟩])
   (.cond (.t 3)
     (.seq (.region [⟨(some 2), .move, [.c (.int .i64 0)], none⟩])
     (.ret))
     (.seq (.region [⟨(some 8), .faddr 1, [.t 1], none⟩,
        ⟨(some 9), .load none, [.t 8], none⟩,
        ⟨(some 7), .move, [.t 9], none⟩])
     (.cond (.t 7)
       (.seq (.region [⟨(some 2), .move, [.c (.int .i64 (-1))], none⟩])
       (.ret))
       (.skip)))))) a34r2
def a34 : ACode := .seq (.region [⟨(some 1), .box, [.t 0], none⟩,
    ⟨(some 2), .move, [.c (.int .i64 0)], none⟩]) a34r1
theorem t34 : told Try.prog Try.f34 = some (10, a34, [.tmp 2]) := by kernel_rfl

def a35r2 : ACode :=
  .ret
def a35r1 : ACode := .seq (.region [⟨(some 3), .faddr 1, [.t 1], none⟩,
    ⟨(some 4), .load none, [.t 3], none⟩,
    ⟨(some 2), .move, [.t 4], none⟩]) a35r2
def a35 : ACode := .seq (.region [⟨(some 1), .box, [.t 0], none⟩,
    ⟨(some 2), .move, [.c (.bool false)], none⟩]) a35r1
theorem t35 : told Try.prog Try.f35 = some (5, a35, [.tmp 2]) := by kernel_rfl

def a36r6 : ACode :=
  .ret
def a36r5 : ACode := .seq (.region [⟨(some 68), .move, [.t 3], none⟩,
    ⟨(some 69), .b2s, [.t 68], none⟩,
    ⟨(some 2), .move, [.t 69], none⟩]) a36r6
def a36r4 : ACode := .seq (.seq (.region [⟨(some 44), .move, [.t 3], none⟩,
     ⟨(some 45), .lenL, [.t 44], none⟩,
     ⟨(some 46), .bin .sub, [.t 45, .c (.int .i64 1)], none⟩,
     ⟨(some 7), .move, [.c (.int .i64 0)], none⟩,
     ⟨(some 8), .move, [.t 46], none⟩])
  (.block 4 (.loop (.seq (.seq (.region [⟨(some 47), .move, [.t 7], none⟩,
        ⟨(some 48), .move, [.t 8], none⟩,
        ⟨(some 49), .bin .lss, [.t 47, .t 48], none⟩])
     (.cond (.t 49)
       (.skip)
       (.exit 4)))
    (.seq (.block 5 (.draw [⟨(some 54), .move, [.t 3], none⟩,
        ⟨(some 55), .move, [.t 7], none⟩,
        ⟨(some 56), .move, [.t 3], none⟩,
        ⟨(some 57), .move, [.t 8], none⟩,
        ⟨(some 58), .move, [.t 3], none⟩,
        ⟨(some 59), .move, [.t 8], none⟩,
        ⟨(some 60), .iaddr 1, [.t 58, .t 59], none⟩,
        ⟨(some 61), .load none, [.t 60], none⟩,
        ⟨(some 62), .move, [.t 3], none⟩,
        ⟨(some 63), .move, [.t 7], none⟩,
        ⟨(some 64), .iaddr 1, [.t 62, .t 63], none⟩,
        ⟨(some 65), .load none, [.t 64], none⟩,
        ⟨(some 66), .iaddr 1, [.t 54, .t 55], none⟩,
        ⟨none, .store 1, [.t 66, .t 61], none⟩,
        ⟨(some 67), .iaddr 1, [.t 56, .t 57], none⟩,
        ⟨none, .store 1, [.t 67, .t 65], none⟩] [0, 0, 0, 0, 0, 0, 48, 112, 0, 0, 768, 1792, 4083, 8179, 16383, 32767]))
    (.region [⟨(some 50), .move, [.t 7], none⟩,
      ⟨(some 51), .bin .add, [.t 50, .c (.int .i64 1)], none⟩,
      ⟨(some 52), .move, [.t 8], none⟩,
      ⟨(some 53), .bin .sub, [.t 52, .c (.int .i64 1)], none⟩,
      ⟨(some 7), .move, [.t 51], none⟩,
      ⟨(some 8), .move, [.t 53], none⟩])))))) a36r5
def a36r3 : ACode := .seq (.block 0 (.loop (.seq (.seq (.region [⟨(some 13), .load (some 1), [.t 1], none⟩,
        ⟨(some 14), .call 53, [.t 13], none⟩,
        ⟨(some 15), .un .not, [.t 14], none⟩])
     (.cond (.t 15)
       (.skip)
       (.exit 0)))
    (.block 1 (.seq (.region [⟨(some 17), .load (some 1), [.t 1], none⟩,
        ⟨(some 18), .call 59, [.t 17, .c (.int .u32 1000000000)], none⟩,
        ⟨(some 16), .move, [.t 18], none⟩,
        ⟨(some 19), .extract 0, [.t 16], none⟩,
        ⟨(some 20), .extract 1, [.t 16], none⟩,
        ⟨(some 4), .alloc [.nil], [], none⟩,
        ⟨none, .store 1, [.t 4, .t 19], none⟩,
        ⟨(some 5), .move, [.t 20], none⟩])
     (.seq (.seq (.region [⟨(some 6), .move, [.c (.int .i64 0)], none⟩])
      (.block 2 (.loop (.seq (.seq (.region [⟨(some 21), .move, [.t 6], none⟩,
            ⟨(some 22), .bin .lss, [.t 21, .c (.int .i64 9)], none⟩,
            ⟨(some 23), .move, [.t 22], none⟩,
            ⟨(some 24), .move, [.t 5], some (23, true)⟩,
            ⟨(some 25), .bin .gtr, [.t 24, .c (.int .u32 0)], some (23, true)⟩,
            ⟨(some 26), .move, [.t 25], some (23, true)⟩,
            ⟨(some 27), .load (some 1), [.t 4], some (26, false)⟩,
            ⟨(some 28), .call 53, [.t 27], some (26, false)⟩,
            ⟨(some 29), .un .not, [.t 28], some (26, false)⟩,
            ⟨(some 30), .pick, [.t 26, .c (.bool true), .t 29], some (23, true)⟩,
            ⟨(some 31), .pick, [.t 23, .t 30, .c (.bool false)], none⟩])
         (.cond (.t 31)
           (.skip)
           (.exit 2)))
        (.seq (.block 3 (.seq (.region [⟨(some 34), .move, [.t 3], none⟩,
             ⟨(some 35), .move, [.t 5], none⟩,
             ⟨(some 36), .bin .rem, [.t 35, .c (.int .u32 10)], none⟩,
             ⟨(some 37), .bin .add, [.c (.int .u32 48), .t 36], none⟩,
             ⟨(some 38), .toInt .u8, [.t 37], none⟩,
             ⟨(some 39), .buildSl 5 1, [.t 38], none⟩,
             ⟨(some 40), .app 5 1 1, [.t 34, .t 39], none⟩,
             ⟨(some 3), .move, [.t 40], none⟩])
          (.region [⟨(some 41), .move, [.t 5], none⟩,
            ⟨(some 42), .bin .quo, [.t 41, .c (.int .u32 10)], none⟩,
            ⟨(some 5), .move, [.t 42], none⟩])))
        (.region [⟨(some 32), .move, [.t 6], none⟩,
          ⟨(some 33), .bin .add, [.t 32, .c (.int .i64 1)], none⟩,
          ⟨(some 6), .move, [.t 33], none⟩]))))))
     (.region [⟨(some 43), .load (some 1), [.t 4], none⟩,
       ⟨none, .store 1, [.t 1, .t 43], none⟩]))))))) a36r4
def a36r2 : ACode := .seq (.region [⟨(some 3), .move, [.c (.nil)], none⟩]) a36r3
def a36r1 : ACode := .seq (.seq (.region [⟨(some 9), .faddr 0, [.t 1], none⟩,
     ⟨(some 10), .load none, [.t 9], none⟩,
     ⟨(some 11), .lenL, [.t 10], none⟩,
     ⟨(some 12), .bin .eql, [.t 11, .c (.int .i64 0)], none⟩])
  (.cond (.t 12)
    (.seq (.region [⟨(some 2), .move, [.c (.str ⟨#[48]⟩)], none⟩])
    (.ret))
    (.skip))) a36r2
def a36 : ACode := .seq (.region [⟨(some 1), .box, [.t 0], none⟩,
    ⟨(some 2), .move, [.c (.str ⟨#[]⟩)], none⟩]) a36r1
theorem t36 : told Try.prog Try.f36 = some (70, a36, [.tmp 2]) := by kernel_rfl

def a37r3 : ACode :=
  .ret
def a37r2 : ACode := .seq (.region [⟨(some 7), .faddr 2, [.t 1], none⟩,
    ⟨(some 8), .load (some 1), [.t 7], none⟩,
    ⟨none, .store 1, [.t 2, .t 8], none⟩]) a37r3
def a37r1 : ACode := .seq (.seq (.region [⟨(some 3), .faddr 2, [.t 1], none⟩,
     ⟨(some 4), .load (some 1), [.t 3], none⟩,
     ⟨(some 5), .call 53, [.t 4], none⟩])
  (.cond (.t 5)
    (.seq (.region [⟨(some 6), .call 33, [.c (.int .u64 1)], none⟩,
       ⟨none, .store 1, [.t 2, .t 6], none⟩])
    (.ret))
    (.skip))) a37r2
def a37 : ACode := .seq (.region [⟨(some 1), .box, [.t 0], none⟩,
    ⟨(some 2), .alloc [.nil], [], none⟩]) a37r1
theorem t37 : told Try.prog Try.f37 = some (9, a37, [.cell 2 (some 1)]) := by kernel_rfl

def a38r3 : ACode :=
  .ret
def a38r2 : ACode := .seq (.region [⟨(some 12), .move, [.t 0], none⟩,
    ⟨(some 13), .toInt .u64, [.t 12], none⟩,
    ⟨(some 14), .call 60, [.t 13], none⟩,
    ⟨(some 15), .build [.bool false, .str ⟨#[]⟩] [(0, 1), (1, 1)], [.c (.bool false), .t 14], none⟩,
    ⟨none, .store 2, [.t 2, .t 15], none⟩]) a38r3
def a38r1 : ACode := .seq (.seq (.region [⟨(some 3), .move, [.t 0], none⟩,
     ⟨(some 4), .bin .lss, [.t 3, .c (.int .i64 0)], none⟩])
  (.cond (.t 4)
    (.seq (.region [⟨(some 5), .move, [.t 0], none⟩,
       ⟨(some 6), .bin .add, [.t 5, .c (.int .i64 1)], none⟩,
       ⟨(some 7), .bin .sub, [.c (.int .i64 0), .t 6], none⟩,
       ⟨(some 8), .toInt .u64, [.t 7], none⟩,
       ⟨(some 9), .bin .add, [.t 8, .c (.int .u64 1)], none⟩,
       ⟨(some 10), .call 60, [.t 9], none⟩,
       ⟨(some 11), .build [.bool false, .str ⟨#[]⟩] [(0, 1), (1, 1)], [.c (.bool true), .t 10], none⟩,
       ⟨none, .store 2, [.t 2, .t 11], none⟩])
    (.ret))
    (.skip))) a38r2
def a38 : ACode := .seq (.region [⟨(some 2), .alloc [.bool false, .str ⟨#[]⟩], [], none⟩]) a38r1
theorem t38 : told Try.prog Try.f38 = some (16, a38, [.cell 2 (some 2)]) := by kernel_rfl

def a39r3 : ACode :=
  .ret
def a39r2 : ACode := .seq (.region [⟨(some 24), .move, [.t 0], none⟩,
    ⟨(some 25), .lenS, [.t 24], none⟩,
    ⟨(some 26), .bin .geq, [.t 25, .c (.int .i64 1)], none⟩,
    ⟨(some 27), .move, [.t 26], none⟩,
    ⟨(some 28), .move, [.t 0], some (27, true)⟩,
    ⟨(some 29), .lenS, [.t 28], some (27, true)⟩,
    ⟨(some 30), .bin .leq, [.t 29, .c (.int .i64 2000)], some (27, true)⟩,
    ⟨(some 31), .pick, [.t 27, .t 30, .c (.bool false)], none⟩,
    ⟨(some 2), .move, [.t 31], none⟩]) a39r3
def a39r1 : ACode := .seq (.seq (.region [⟨(some 3), .move, [.c (.int .i64 0)], none⟩])
  (.block 0 (.loop (.seq (.seq (.region [⟨(some 4), .move, [.t 3], none⟩,
        ⟨(some 5), .move, [.t 0], none⟩,
        ⟨(some 6), .lenS, [.t 5], none⟩,
        ⟨(some 7), .bin .lss, [.t 4, .t 6], none⟩,
        ⟨(some 8), .move, [.t 7], none⟩,
        ⟨(some 9), .move, [.t 3], some (8, true)⟩,
        ⟨(some 10), .bin .leq, [.t 9, .c (.int .i64 2000)], some (8, true)⟩,
        ⟨(some 11), .pick, [.t 8, .t 10, .c (.bool false)], none⟩])
     (.cond (.t 11)
       (.skip)
       (.exit 0)))
    (.seq (.block 1 (.seq (.region [⟨(some 14), .move, [.t 0], none⟩,
         ⟨(some 15), .move, [.t 3], none⟩,
         ⟨(some 16), .index, [.t 14, .t 15], none⟩,
         ⟨(some 17), .bin .lss, [.t 16, .c (.int .u8 48)], none⟩,
         ⟨(some 18), .move, [.t 17], none⟩,
         ⟨(some 19), .move, [.t 0], some (18, false)⟩,
         ⟨(some 20), .move, [.t 3], some (18, false)⟩,
         ⟨(some 21), .index, [.t 19, .t 20], some (18, false)⟩,
         ⟨(some 22), .bin .gtr, [.t 21, .c (.int .u8 57)], some (18, false)⟩,
         ⟨(some 23), .pick, [.t 18, .c (.bool true), .t 22], none⟩])
      (.cond (.t 23)
        (.seq (.region [⟨(some 2), .move, [.c (.bool false)], none⟩])
        (.ret))
        (.skip))))
    (.region [⟨(some 12), .move, [.t 3], none⟩,
      ⟨(some 13), .bin .add, [.t 12, .c (.int .i64 1)], none⟩,
      ⟨(some 3), .move, [.t 13], none⟩])))))) a39r2
def a39 : ACode := .seq (.region [⟨(some 2), .move, [.c (.bool false)], none⟩]) a39r1
theorem t39 : told Try.prog Try.f39 = some (32, a39, [.tmp 2]) := by kernel_rfl

def a40r3 : ACode :=
  .ret
def a40r2 : ACode := .seq (.region [⟨(some 13), .move, [.t 0], none⟩,
    ⟨(some 2), .move, [.t 13], none⟩]) a40r3
def a40r1 : ACode := .seq (.block 0 (.loop (.seq (.seq (.region [⟨(some 3), .move, [.t 0], none⟩,
        ⟨(some 4), .lenS, [.t 3], none⟩,
        ⟨(some 5), .bin .gtr, [.t 4, .c (.int .i64 1)], none⟩,
        ⟨(some 6), .move, [.t 5], none⟩,
        ⟨(some 7), .move, [.t 0], some (6, true)⟩,
        ⟨(some 8), .index, [.t 7, .c (.int .i64 0)], some (6, true)⟩,
        ⟨(some 9), .bin .eql, [.t 8, .c (.int .u8 48)], some (6, true)⟩,
        ⟨(some 10), .pick, [.t 6, .t 9, .c (.bool false)], none⟩])
     (.cond (.t 10)
       (.skip)
       (.exit 0)))
    (.block 1 (.region [⟨(some 11), .move, [.t 0], none⟩,
       ⟨(some 12), .sliceS true false, [.t 11, .c (.int .i64 1)], none⟩,
       ⟨(some 0), .move, [.t 12], none⟩]))))) a40r2
def a40 : ACode := .seq (.region [⟨(some 2), .move, [.c (.str ⟨#[]⟩)], none⟩]) a40r1
theorem t40 : told Try.prog Try.f40 = some (14, a40, [.tmp 2]) := by kernel_rfl

def a41r3 : ACode :=
  .ret
def a41r2 : ACode := .seq (.region [⟨(some 24), .move, [.t 0], none⟩,
    ⟨(some 4), .move, [.t 24], none⟩]) a41r3
def a41r1 : ACode := .seq (.seq (.region [⟨(some 5), .move, [.c (.int .i64 0)], none⟩])
  (.block 0 (.loop (.seq (.seq (.region [⟨(some 8), .move, [.t 5], none⟩,
        ⟨(some 9), .bin .lss, [.t 8, .c (.int .i64 20000)], none⟩,
        ⟨(some 10), .move, [.t 9], none⟩,
        ⟨(some 11), .move, [.t 1], some (10, true)⟩,
        ⟨(some 12), .bin .neq, [.t 11, .c (.str ⟨#[48]⟩)], some (10, true)⟩,
        ⟨(some 13), .pick, [.t 10, .t 12, .c (.bool false)], none⟩])
     (.cond (.t 13)
       (.skip)
       (.exit 0)))
    (.seq (.block 1 (.seq (.region [⟨(some 17), .move, [.t 0], none⟩,
         ⟨(some 18), .move, [.t 1], none⟩,
         ⟨(some 19), .call 61, [.t 17, .t 18], none⟩,
         ⟨(some 16), .move, [.t 19], none⟩,
         ⟨(some 20), .extract 0, [.t 16], none⟩,
         ⟨(some 21), .extract 1, [.t 16], none⟩,
         ⟨(some 6), .move, [.t 20], none⟩,
         ⟨(some 7), .move, [.t 21], none⟩])
      (.seq (.region [⟨(some 22), .move, [.t 1], none⟩,
         ⟨(some 0), .move, [.t 22], none⟩])
      (.region [⟨(some 23), .move, [.t 7], none⟩,
        ⟨(some 1), .move, [.t 23], none⟩]))))
    (.region [⟨(some 14), .move, [.t 5], none⟩,
      ⟨(some 15), .bin .add, [.t 14, .c (.int .i64 1)], none⟩,
      ⟨(some 5), .move, [.t 15], none⟩])))))) a41r2
def a41 : ACode := .seq (.region [⟨(some 4), .move, [.c (.str ⟨#[]⟩)], none⟩]) a41r1
theorem t41 : told Try.prog Try.f41 = some (25, a41, [.tmp 4]) := by kernel_rfl

def a42r5 : ACode :=
  .ret
def a42r4 : ACode := .seq (.region [⟨(some 59), .load (some 1), [.t 4], none⟩,
    ⟨none, .store 1, [.t 2, .t 59], none⟩,
    ⟨(some 3), .move, [.c (.bool true)], none⟩]) a42r5
def a42r3 : ACode := .seq (.block 0 (.loop (.seq (.seq (.region [⟨(some 18), .move, [.t 0], none⟩,
        ⟨(some 19), .lenS, [.t 18], none⟩,
        ⟨(some 20), .bin .gtr, [.t 19, .c (.int .i64 0)], none⟩])
     (.cond (.t 20)
       (.skip)
       (.exit 0)))
    (.block 1 (.seq (.region [⟨(some 21), .move, [.t 0], none⟩,
        ⟨(some 22), .lenS, [.t 21], none⟩,
        ⟨(some 23), .min, [.c (.int .i64 9), .t 22], none⟩,
        ⟨(some 5), .move, [.t 23], none⟩])
     (.seq (.region [⟨(some 6), .move, [.c (.int .u64 0)], none⟩,
        ⟨(some 7), .move, [.c (.int .u64 1)], none⟩])
     (.seq (.seq (.region [⟨(some 24), .move, [.t 0], none⟩,
         ⟨(some 25), .move, [.t 5], none⟩,
         ⟨(some 26), .sliceS false true, [.t 24, .t 25], none⟩,
         ⟨(some 27), .s2b, [.t 26], none⟩,
         ⟨(some 28), .lenL, [.t 27], none⟩,
         ⟨(some 29), .move, [.c (.int .i64 0)], none⟩])
      (.block 2 (.loop (.seq (.region [⟨(some 30), .bin .lss, [.t 29, .t 28], none⟩])
        (.seq (.cond (.t 30)
           (.skip)
           (.exit 2))
        (.seq (.block 3 (.seq (.region [⟨(some 31), .iaddr 1, [.t 27, .t 29], none⟩,
             ⟨(some 32), .load none, [.t 31], none⟩,
             ⟨(some 9), .move, [.t 32], none⟩])
          (.seq (.seq (.region [⟨(some 33), .move, [.t 9], none⟩,
              ⟨(some 34), .bin .lss, [.t 33, .c (.int .u8 48)], none⟩,
              ⟨(some 35), .move, [.t 34], none⟩,
              ⟨(some 36), .move, [.t 9], some (35, false)⟩,
              ⟨(some 37), .bin .gtr, [.t 36, .c (.int .u8 57)], some (35, false)⟩,
              ⟨(some 38), .pick, [.t 35, .c (.bool true), .t 37], none⟩])
           (.cond (.t 38)
             (.seq (.region [⟨(some 39), .build [.nil] [], [], none⟩,
                ⟨none, .store 1, [.t 2, .t 39], none⟩,
                ⟨(some 3), .move, [.c (.bool false)], none⟩])
             (.ret))
             (.skip)))
          (.region [⟨(some 40), .move, [.t 6], none⟩,
            ⟨(some 41), .bin .mul, [.c (.int .u64 10), .t 40], none⟩,
            ⟨(some 42), .move, [.t 9], none⟩,
            ⟨(some 43), .bin .sub, [.t 42, .c (.int .u8 48)], none⟩,
            ⟨(some 44), .toInt .u64, [.t 43], none⟩,
            ⟨(some 45), .bin .add, [.t 41, .t 44], none⟩,
            ⟨(some 46), .move, [.t 7], none⟩,
            ⟨(some 47), .bin .mul, [.c (.int .u64 10), .t 46], none⟩,
            ⟨(some 6), .move, [.t 45], none⟩,
            ⟨(some 7), .move, [.t 47], none⟩]))))
        (.region [⟨(some 48), .bin .add, [.t 29, .c (.int .i64 1)], none⟩,
          ⟨(some 29), .move, [.t 48], none⟩])))))))
     (.seq (.draw [⟨(some 49), .load (some 1), [.t 4], none⟩,
        ⟨(some 50), .move, [.t 7], none⟩,
        ⟨(some 51), .call 33, [.t 50], none⟩,
        ⟨(some 52), .call 51, [.t 49, .t 51], none⟩,
        ⟨(some 53), .move, [.t 6], none⟩,
        ⟨(some 54), .call 33, [.t 53], none⟩,
        ⟨(some 55), .call 62, [.t 52, .t 54], none⟩,
        ⟨none, .store 1, [.t 4, .t 55], none⟩] [0, 0, 2, 7, 0, 31, 63, 127])
     (.region [⟨(some 56), .move, [.t 0], none⟩,
       ⟨(some 57), .move, [.t 5], none⟩,
       ⟨(some 58), .sliceS true false, [.t 56, .t 57], none⟩,
       ⟨(some 0), .move, [.t 58], none⟩]))))))))) a42r4
def a42r2 : ACode := .seq (.region [⟨(some 4), .alloc [.nil], [], none⟩]) a42r3
def a42r1 : ACode := .seq (.seq (.region [⟨(some 10), .move, [.t 0], none⟩,
     ⟨(some 11), .bin .eql, [.t 10, .c (.str ⟨#[]⟩)], none⟩,
     ⟨(some 12), .move, [.t 11], none⟩,
     ⟨(some 13), .move, [.t 0], some (12, false)⟩,
     ⟨(some 14), .lenS, [.t 13], some (12, false)⟩,
     ⟨(some 15), .bin .gtr, [.t 14, .c (.int .i64 2000)], some (12, false)⟩,
     ⟨(some 16), .pick, [.t 12, .c (.bool true), .t 15], none⟩])
  (.cond (.t 16)
    (.seq (.region [⟨(some 17), .build [.nil] [], [], none⟩,
       ⟨none, .store 1, [.t 2, .t 17], none⟩,
       ⟨(some 3), .move, [.c (.bool false)], none⟩])
    (.ret))
    (.skip))) a42r2
def a42 : ACode := .seq (.region [⟨(some 2), .alloc [.nil], [], none⟩,
    ⟨(some 3), .move, [.c (.bool false)], none⟩]) a42r1
theorem t42 : told Try.prog Try.f42 = some (60, a42, [.cell 2 (some 1), .tmp 3]) := by kernel_rfl

def a43r2 : ACode :=
  .ret
def a43r1 : ACode := .seq (.draw [⟨(some 5), .load (some 1), [.t 3], none⟩,
    ⟨(some 6), .move, [.t 0], none⟩,
    ⟨(some 7), .move, [.t 6], none⟩,
    ⟨(some 8), .load (some 1), [.t 3], some (7, true)⟩,
    ⟨(some 9), .call 53, [.t 8], some (7, true)⟩,
    ⟨(some 10), .un .not, [.t 9], some (7, true)⟩,
    ⟨(some 11), .pick, [.t 7, .t 10, .c (.bool false)], none⟩,
    ⟨(some 12), .build [.nil, .bool false] [(0, 1), (1, 1)], [.t 5, .t 11], none⟩,
    ⟨none, .store 2, [.t 4, .t 12], none⟩] [0, 0, 2, 6, 14, 30, 62, 127, 255]) a43r2
def a43 : ACode := .seq (.region [⟨(some 3), .box, [.t 1], none⟩,
    ⟨(some 4), .alloc [.nil, .bool false], [], none⟩]) a43r1
theorem t43 : told Try.prog Try.f43 = some (13, a43, [.cell 4 (some 2)]) := by kernel_rfl

def a44r3 : ACode :=
  .ret
def a44r2 : ACode := .seq (.region [⟨(some 7), .faddr 0, [.t 1], none⟩,
    ⟨(some 8), .load (some 2), [.t 7], none⟩,
    ⟨(some 9), .call 64, [.t 8], none⟩,
    ⟨(some 10), .extract 0, [.t 9], none⟩,
    ⟨(some 11), .extract 1, [.t 9], none⟩,
    ⟨(some 2), .move, [.t 10], none⟩,
    ⟨(some 3), .move, [.t 11], none⟩]) a44r3
def a44r1 : ACode := .seq (.seq (.region [⟨(some 4), .load (some 3), [.t 1], none⟩,
     ⟨(some 5), .call 63, [.t 4], none⟩,
     ⟨(some 6), .un .not, [.t 5], none⟩])
  (.cond (.t 6)
    (.seq (.region [⟨(some 2), .move, [.c (.int .i64 0)], none⟩,
       ⟨(some 3), .move, [.c (.bool false)], none⟩])
    (.ret))
    (.skip))) a44r2
def a44 : ACode := .seq (.region [⟨(some 1), .box, [.t 0], none⟩,
    ⟨(some 2), .move, [.c (.int .i64 0)], none⟩,
    ⟨(some 3), .move, [.c (.bool false)], none⟩]) a44r1
theorem t44 : told Try.prog Try.f44 = some (12, a44, [.tmp 2, .tmp 3]) := by kernel_rfl

def a45r2 : ACode :=
  .ret
def a45r1 : ACode := .seq (.draw [⟨(some 3), .faddr 0, [.t 1], none⟩,
    ⟨(some 4), .load (some 2), [.t 3], none⟩,
    ⟨(some 5), .call 65, [.t 4], none⟩,
    ⟨(some 6), .load (some 3), [.t 1], none⟩,
    ⟨(some 7), .call 37, [.t 6], none⟩,
    ⟨(some 8), .build [.nil, .bool false, .nil] [(0, 2), (2, 1)], [.t 5, .t 7], none⟩,
    ⟨none, .store 3, [.t 2, .t 8], none⟩] [0, 1, 3, 0, 15, 31, 63]) a45r2
def a45 : ACode := .seq (.region [⟨(some 1), .box, [.t 0], none⟩,
    ⟨(some 2), .alloc [.nil, .bool false, .nil], [], none⟩]) a45r1
theorem t45 : told Try.prog Try.f45 = some (9, a45, [.cell 2 (some 3)]) := by kernel_rfl

def a46r2 : ACode :=
  .ret
def a46r1 : ACode := .seq (.draw [⟨(some 6), .faddr 0, [.t 2], none⟩,
    ⟨(some 7), .load (some 2), [.t 6], none⟩,
    ⟨(some 8), .load (some 3), [.t 3], none⟩,
    ⟨(some 9), .call 28, [.t 8], none⟩,
    ⟨(some 10), .buildSl 30 2, [.t 9], none⟩,
    ⟨(some 11), .call 27, [.t 7, .t 10], none⟩,
    ⟨(some 12), .load (some 3), [.t 2], none⟩,
    ⟨(some 13), .call 28, [.t 12], none⟩,
    ⟨(some 14), .faddr 0, [.t 3], none⟩,
    ⟨(some 15), .load (some 2), [.t 14], none⟩,
    ⟨(some 16), .buildSl 30 2, [.t 15], none⟩,
    ⟨(some 17), .call 27, [.t 13, .t 16], none⟩,
    ⟨(some 18), .call 30, [.t 11, .t 17], none⟩,
    ⟨(some 19), .extract 0, [.t 18], none⟩,
    ⟨(some 20), .extract 1, [.t 18], none⟩,
    ⟨none, .store 3, [.t 4, .t 19], none⟩,
    ⟨(some 5), .move, [.t 20], none⟩] [0, 1, 0, 4, 12, 31, 0, 127, 0, 256, 768, 2047, 4095, 8191, 8191, 32767, 65535]) a46r2
def a46 : ACode := .seq (.region [⟨(some 2), .box, [.t 0], none⟩,
    ⟨(some 3), .box, [.t 1], none⟩,
    ⟨(some 4), .alloc [.nil, .bool false, .nil], [], none⟩,
    ⟨(some 5), .move, [.c (.bool false)], none⟩]) a46r1
theorem t46 : told Try.prog Try.f46 = some (21, a46, [.cell 4 (some 3), .tmp 5]) := by kernel_rfl

def a47r4 : ACode :=
  .ret
def a47r3 : ACode := .seq (.draw [⟨(some 16), .load (some 3), [.t 3], none⟩,
    ⟨(some 17), .load (some 3), [.t 2], none⟩,
    ⟨(some 18), .load (some 3), [.t 5], none⟩,
    ⟨(some 19), .call 67, [.t 18], none⟩,
    ⟨(some 20), .call 66, [.t 19], none⟩,
    ⟨(some 21), .buildSl 32 3, [.t 20], none⟩,
    ⟨(some 22), .call 14, [.t 17, .t 21], none⟩,
    ⟨(some 23), .call 45, [.t 22], none⟩,
    ⟨(some 24), .buildSl 32 3, [.t 23], none⟩,
    ⟨(some 25), .call 12, [.t 16, .t 24], none⟩,
    ⟨none, .store 3, [.t 4, .t 25], none⟩] [0, 0, 0, 4, 12, 28, 62, 126, 254, 511, 1023]) a47r4
def a47r2 : ACode := .seq (.seq (.region [⟨(some 13), .move, [.t 6], none⟩,
     ⟨(some 14), .un .not, [.t 13], none⟩])
  (.cond (.t 14)
    (.seq (.region [⟨(some 15), .load (some 3), [.t 3], none⟩,
       ⟨none, .store 3, [.t 4, .t 15], none⟩])
    (.ret))
    (.skip))) a47r3
def a47r1 : ACode := .seq (.region [⟨(some 8), .load (some 3), [.t 3], none⟩,
    ⟨(some 9), .load (some 3), [.t 2], none⟩,
    ⟨(some 10), .call 46, [.t 8, .t 9], none⟩,
    ⟨(some 7), .move, [.t 10], none⟩,
    ⟨(some 11), .extract 0, [.t 7], none⟩,
    ⟨(some 12), .extract 1, [.t 7], none⟩,
    ⟨(some 5), .alloc [.nil, .bool false, .nil], [], none⟩,
    ⟨none, .store 3, [.t 5, .t 11], none⟩,
    ⟨(some 6), .move, [.t 12], none⟩]) a47r2
def a47 : ACode := .seq (.region [⟨(some 2), .box, [.t 0], none⟩,
    ⟨(some 3), .box, [.t 1], none⟩,
    ⟨(some 4), .alloc [.nil, .bool false, .nil], [], none⟩]) a47r1
theorem t47 : told Try.prog Try.f47 = some (26, a47, [.cell 4 (some 3)]) := by kernel_rfl

def a48r7 : ACode :=
  .ret
def a48r6 : ACode := .seq (.region [⟨(some 64), .load (some 3), [.t 10], none⟩,
    ⟨none, .store 3, [.t 6, .t 64], none⟩,
    ⟨(some 7), .move, [.c (.int .i64 0)], none⟩]) a48r7
def a48r5 : ACode := .seq (.seq (.region [⟨(some 61), .move, [.t 9], none⟩,
     ⟨(some 62), .un .not, [.t 61], none⟩])
  (.cond (.t 62)
    (.seq (.region [⟨(some 63), .load (some 3), [.t 10], none⟩,
       ⟨none, .store 3, [.t 6, .t 63], none⟩,
       ⟨(some 7), .move, [.c (.int .i64 26)], none⟩])
    (.ret))
    (.skip))) a48r6
def a48r4 : ACode := .seq (.region [⟨(some 55), .load (some 3), [.t 3], none⟩,
    ⟨(some 56), .move, [.t 8], none⟩,
    ⟨(some 57), .move, [.t 2], none⟩,
    ⟨(some 58), .call 71, [.t 55, .t 56, .t 57], none⟩,
    ⟨(some 54), .move, [.t 58], none⟩,
    ⟨(some 59), .extract 0, [.t 54], none⟩,
    ⟨(some 60), .extract 1, [.t 54], none⟩,
    ⟨(some 10), .alloc [.nil, .bool false, .nil], [], none⟩,
    ⟨none, .store 3, [.t 10, .t 59], none⟩,
    ⟨(some 9), .move, [.t 60], none⟩]) a48r5
def a48r3 : ACode := .seq (.seq (.region [⟨(some 51), .move, [.t 9], none⟩,
     ⟨(some 52), .un .not, [.t 51], none⟩])
  (.cond (.t 52)
    (.seq (.region [⟨(some 53), .build [.nil, .bool false, .nil] [], [], none⟩,
       ⟨none, .store 3, [.t 6, .t 53], none⟩,
       ⟨(some 7), .move, [.c (.int .i64 26)], none⟩])
    (.ret))
    (.skip))) a48r4
def a48r2 : ACode := .seq (.region [⟨(some 47), .load (some 3), [.t 4], none⟩,
    ⟨(some 48), .call 44, [.t 47], none⟩,
    ⟨(some 46), .move, [.t 48], none⟩,
    ⟨(some 49), .extract 0, [.t 46], none⟩,
    ⟨(some 50), .extract 1, [.t 46], none⟩,
    ⟨(some 8), .move, [.t 49], none⟩,
    ⟨(some 9), .move, [.t 50], none⟩]) a48r3
def a48r1 : ACode := .seq (.block 0 (.seq (.region [⟨(some 12), .load (some 3), [.t 4], none⟩,
      ⟨(some 13), .call 63, [.t 12], none⟩,
      ⟨(some 14), .un .not, [.t 13], none⟩,
      ⟨(some 15), .move, [.t 14], none⟩,
      ⟨(some 16), .load (some 3), [.t 3], some (15, false)⟩,
      ⟨(some 17), .call 15, [.t 16], some (15, false)⟩,
      ⟨(some 18), .bin .eql, [.t 17, .c (.int .i64 0)], some (15, false)⟩,
      ⟨(some 19), .move, [.t 18], some (15, false)⟩,
      ⟨(some 20), .load (some 3), [.t 4], some (19, true)⟩,
      ⟨(some 21), .call 15, [.t 20], some (19, true)⟩,
      ⟨(some 22), .bin .lss, [.t 21, .c (.int .i64 0)], some (19, true)⟩,
      ⟨(some 23), .pick, [.t 19, .t 22, .c (.bool false)], some (15, false)⟩,
      ⟨(some 24), .pick, [.t 15, .c (.bool true), .t 23], none⟩,
      ⟨(some 11), .move, [.t 24], none⟩])
   (.cond (.t 11)
     (.seq (.region [⟨(some 25), .build [.nil, .bool false, .nil] [], [], none⟩,
        ⟨none, .store 3, [.t 6, .t 25], none⟩,
        ⟨(some 7), .move, [.c (.int .i64 22)], none⟩])
     (.ret))
     (.seq (.region [⟨(some 27), .load (some 3), [.t 3], none⟩,
        ⟨(some 28), .call 68, [.t 27], none⟩,
        ⟨(some 29), .move, [.t 28], none⟩,
        ⟨(some 30), .load (some 3), [.t 4], some (29, true)⟩,
        ⟨(some 31), .call 15, [.t 30], some (29, true)⟩,
        ⟨(some 32), .bin .neq, [.t 31, .c (.int .i64 0)], some (29, true)⟩,
        ⟨(some 33), .pick, [.t 29, .t 32, .c (.bool false)], none⟩,
        ⟨(some 26), .move, [.t 33], none⟩])
     (.cond (.t 26)
       (.seq (.seq (.region [⟨(some 34), .load (some 3), [.t 3], none⟩,
           ⟨(some 35), .call 15, [.t 34], none⟩,
           ⟨(some 36), .bin .lss, [.t 35, .c (.int .i64 0)], none⟩,
           ⟨(some 37), .move, [.t 36], none⟩,
           ⟨(some 38), .load (some 3), [.t 4], some (37, true)⟩,
           ⟨(some 39), .call 69, [.t 38], some (37, true)⟩,
           ⟨(some 40), .field 0 (some 1), [.t 39], some (37, true)⟩,
           ⟨(some 41), .call 70, [.t 40], some (37, true)⟩,
           ⟨(some 42), .pick, [.t 37, .t 41, .c (.bool false)], none⟩])
        (.cond (.t 42)
          (.seq (.region [⟨(some 43), .load (some 3), [.t 3], none⟩,
             ⟨(some 44), .call 45, [.t 43], none⟩,
             ⟨none, .store 3, [.t 6, .t 44], none⟩,
             ⟨(some 7), .move, [.c (.int .i64 0)], none⟩])
          (.ret))
          (.skip)))
       (.seq (.region [⟨(some 45), .load (some 3), [.t 3], none⟩,
          ⟨none, .store 3, [.t 6, .t 45], none⟩,
          ⟨(some 7), .move, [.c (.int .i64 0)], none⟩])
       (.ret)))
       (.skip)))))) a48r2
def a48 : ACode := .seq (.region [⟨(some 3), .box, [.t 0], none⟩,
    ⟨(some 4), .box, [.t 1], none⟩,
    ⟨(some 6), .alloc [.nil, .bool false, .nil], [], none⟩,
    ⟨(some 7), .move, [.c (.int .i64 0)], none⟩]) a48r1
theorem t48 : told Try.prog Try.f48 = some (65, a48, [.cell 6 (some 3), .tmp 7]) := by kernel_rfl

def a49r9 : ACode :=
  .ret
def a49r8 : ACode := .seq (.region [⟨(some 84), .load (some 2), [.t 11], none⟩,
    ⟨(some 85), .call 66, [.t 84], none⟩,
    ⟨none, .store 3, [.t 6, .t 85], none⟩,
    ⟨(some 7), .move, [.c (.int .i64 0)], none⟩]) a49r9
def a49r7 : ACode := .seq (.seq (.region [⟨(some 12), .move, [.c (.int .i64 1)], none⟩])
  (.block 0 (.loop (.seq (.seq (.region [⟨(some 53), .move, [.t 10], none⟩,
        ⟨(some 54), .un .not, [.t 53], none⟩,
        ⟨(some 55), .move, [.t 54], none⟩,
        ⟨(some 56), .move, [.t 12], some (55, false)⟩,
        ⟨(some 57), .move, [.t 9], some (55, false)⟩,
        ⟨(some 58), .bin .leq, [.t 56, .t 57], some (55, false)⟩,
        ⟨(some 59), .pick, [.t 55, .c (.bool true), .t 58], none⟩])
     (.cond (.t 59)
       (.skip)
       (.exit 0)))
    (.seq (.block 1 (.seq (.draw [⟨(some 63), .load (some 2), [.t 11], none⟩,
         ⟨(some 64), .load (some 3), [.t 8], none⟩,
         ⟨(some 65), .call 69, [.t 64], none⟩,
         ⟨(some 66), .move, [.t 12], none⟩,
         ⟨(some 67), .call 32, [.t 66], none⟩,
         ⟨(some 68), .buildSl 30 2, [.t 67], none⟩,
         ⟨(some 69), .call 31, [.t 65, .t 68], none⟩,
         ⟨(some 70), .buildSl 30 2, [.t 69], none⟩,
         ⟨(some 71), .call 27, [.t 63, .t 70], none⟩,
         ⟨(some 72), .move, [.t 12], none⟩,
         ⟨(some 73), .call 32, [.t 72], none⟩,
         ⟨(some 74), .call 72, [.t 71, .t 73], none⟩,
         ⟨(some 62), .move, [.t 74], none⟩,
         ⟨(some 75), .extract 0, [.t 62], none⟩,
         ⟨(some 76), .extract 1, [.t 62], none⟩,
         ⟨(some 77), .extract 2, [.t 62], none⟩,
         ⟨none, .store 2, [.t 11, .t 75], none⟩] [0, 0, 2, 0, 14, 30, 62, 126, 255, 0, 1023, 2047, 4095, 8191, 8191, 8191, 16383])
      (.seq (.region [⟨(some 78), .faddr 0, [.t 11], none⟩,
         ⟨(some 79), .load (some 1), [.t 78], none⟩,
         ⟨(some 80), .call 50, [.t 79], none⟩,
         ⟨(some 81), .move, [.t 2], none⟩,
         ⟨(some 82), .bin .gtr, [.t 80, .t 81], none⟩])
      (.cond (.t 82)
        (.seq (.region [⟨(some 83), .build [.nil, .bool false, .nil] [], [], none⟩,
           ⟨none, .store 3, [.t 6, .t 83], none⟩,
           ⟨(some 7), .move, [.c (.int .i64 26)], none⟩])
        (.ret))
        (.skip)))))
    (.region [⟨(some 60), .move, [.t 12], none⟩,
      ⟨(some 61), .bin .add, [.t 60, .c (.int .i64 1)], none⟩,
      ⟨(some 12), .move, [.t 61], none⟩])))))) a49r8
def a49r6 : ACode := .seq (.region [⟨(some 52), .call 32, [.c (.int .i64 1)], none⟩,
    ⟨(some 11), .alloc [.nil, .bool false], [], none⟩,
    ⟨none, .store 2, [.t 11, .t 52], none⟩]) a49r7
def a49r5 : ACode := .seq (.region [⟨(some 48), .load (some 3), [.t 3], none⟩,
    ⟨(some 49), .call 44, [.t 48], none⟩,
    ⟨(some 47), .move, [.t 49], none⟩,
    ⟨(some 50), .extract 0, [.t 47], none⟩,
    ⟨(some 51), .extract 1, [.t 47], none⟩,
    ⟨(some 9), .move, [.t 50], none⟩,
    ⟨(some 10), .move, [.t 51], none⟩]) a49r6
def a49r4 : ACode := .seq (.seq (.region [⟨(some 41), .load (some 3), [.t 8], none⟩,
     ⟨(some 42), .load (some 3), [.t 3], none⟩,
     ⟨(some 43), .call 11, [.t 41, .t 42], none⟩,
     ⟨(some 44), .bin .lss, [.t 43, .c (.int .i64 0)], none⟩])
  (.cond (.t 44)
    (.region [⟨(some 45), .load (some 3), [.t 8], none⟩,
      ⟨(some 46), .load (some 3), [.t 3], none⟩,
      ⟨none, .store 3, [.t 3, .t 45], none⟩,
      ⟨none, .store 3, [.t 8, .t 46], none⟩])
    (.skip))) a49r5
def a49r3 : ACode := .seq (.seq (.region [⟨(some 37), .load (some 3), [.t 8], none⟩,
     ⟨(some 38), .call 15, [.t 37], none⟩,
     ⟨(some 39), .bin .lss, [.t 38, .c (.int .i64 0)], none⟩])
  (.cond (.t 39)
    (.seq (.region [⟨(some 40), .build [.nil, .bool false, .nil] [], [], none⟩,
       ⟨none, .store 3, [.t 6, .t 40], none⟩,
       ⟨(some 7), .move, [.c (.int .i64 0)], none⟩])
    (.ret))
    (.skip))) a49r4
def a49r2 : ACode := .seq (.draw [⟨(some 32), .load (some 3), [.t 4], none⟩,
    ⟨(some 33), .load (some 3), [.t 3], none⟩,
    ⟨(some 34), .call 45, [.t 33], none⟩,
    ⟨(some 35), .buildSl 32 3, [.t 34], none⟩,
    ⟨(some 36), .call 12, [.t 32, .t 35], none⟩,
    ⟨(some 8), .alloc [.nil, .bool false, .nil], [], none⟩,
    ⟨none, .store 3, [.t 8, .t 36], none⟩] [0, 0, 2, 6, 15, 0, 63]) a49r3
def a49r1 : ACode := .seq (.seq (.region [⟨(some 13), .load (some 3), [.t 3], none⟩,
     ⟨(some 14), .call 63, [.t 13], none⟩,
     ⟨(some 15), .un .not, [.t 14], none⟩,
     ⟨(some 16), .move, [.t 15], none⟩,
     ⟨(some 17), .load (some 3), [.t 4], some (16, false)⟩,
     ⟨(some 18), .call 63, [.t 17], some (16, false)⟩,
     ⟨(some 19), .un .not, [.t 18], some (16, false)⟩,
     ⟨(some 20), .pick, [.t 16, .c (.bool true), .t 19], none⟩,
     ⟨(some 21), .move, [.t 20], none⟩,
     ⟨(some 22), .load (some 3), [.t 3], some (21, false)⟩,
     ⟨(some 23), .call 15, [.t 22], some (21, false)⟩,
     ⟨(some 24), .bin .lss, [.t 23, .c (.int .i64 0)], some (21, false)⟩,
     ⟨(some 25), .pick, [.t 21, .c (.bool true), .t 24], none⟩,
     ⟨(some 26), .move, [.t 25], none⟩,
     ⟨(some 27), .load (some 3), [.t 4], some (26, false)⟩,
     ⟨(some 28), .call 15, [.t 27], some (26, false)⟩,
     ⟨(some 29), .bin .lss, [.t 28, .c (.int .i64 0)], some (26, false)⟩,
     ⟨(some 30), .pick, [.t 26, .c (.bool true), .t 29], none⟩])
  (.cond (.t 30)
    (.seq (.region [⟨(some 31), .build [.nil, .bool false, .nil] [], [], none⟩,
       ⟨none, .store 3, [.t 6, .t 31], none⟩,
       ⟨(some 7), .move, [.c (.int .i64 22)], none⟩])
    (.ret))
    (.skip))) a49r2
def a49 : ACode := .seq (.region [⟨(some 3), .box, [.t 0], none⟩,
    ⟨(some 4), .box, [.t 1], none⟩,
    ⟨(some 6), .alloc [.nil, .bool false, .nil], [], none⟩,
    ⟨(some 7), .move, [.c (.int .i64 0)], none⟩]) a49r1
theorem t49 : told Try.prog Try.f49 = some (86, a49, [.cell 6 (some 3), .tmp 7]) := by kernel_rfl

def a50r2 : ACode :=
  .ret
def a50r1 : ACode := .seq (.region [⟨(some 3), .faddr 0, [.t 1], none⟩,
    ⟨(some 4), .load none, [.t 3], none⟩,
    ⟨(some 5), .lenL, [.t 4], none⟩,
    ⟨(some 2), .move, [.t 5], none⟩]) a50r2
def a50 : ACode := .seq (.region [⟨(some 1), .box, [.t 0], none⟩,
    ⟨(some 2), .move, [.c (.int .i64 0)], none⟩]) a50r1
theorem t50 : told Try.prog Try.f50 = some (6, a50, [.tmp 2]) := by kernel_rfl

def a51r4 : ACode :=
  .ret
def a51r3 : ACode := .seq (.region [⟨(some 71), .move, [.t 5], none⟩,
    ⟨(some 72), .call 58, [.t 71], none⟩,
    ⟨none, .store 1, [.t 4, .t 72], none⟩]) a51r4
def a51r2 : ACode := .seq (.seq (.region [⟨(some 20), .faddr 0, [.t 2], none⟩,
     ⟨(some 21), .load none, [.t 20], none⟩,
     ⟨(some 22), .lenL, [.t 21], none⟩,
     ⟨(some 23), .move, [.c (.int .i64 0)], none⟩])
  (.block 0 (.loop (.seq (.region [⟨(some 24), .bin .lss, [.t 23, .t 22], none⟩])
    (.seq (.cond (.t 24)
       (.skip)
       (.exit 0))
    (.seq (.block 1 (.seq (.region [⟨(some 25), .move, [.t 23], none⟩,
         ⟨(some 26), .iaddr 1, [.t 21, .t 23], none⟩,
         ⟨(some 27), .load none, [.t 26], none⟩,
         ⟨(some 6), .move, [.t 25], none⟩,
         ⟨(some 7), .move, [.t 27], none⟩])
      (.seq (.region [⟨(some 8), .move, [.c (.int .u64 0)], none⟩])
      (.seq (.seq (.region [⟨(some 28), .faddr 0, [.t 3], none⟩,
          ⟨(some 29), .load none, [.t 28], none⟩,
          ⟨(some 30), .lenL, [.t 29], none⟩,
          ⟨(some 31), .move, [.c (.int .i64 0)], none⟩])
       (.block 2 (.loop (.seq (.region [⟨(some 32), .bin .lss, [.t 31, .t 30], none⟩])
         (.seq (.cond (.t 32)
            (.skip)
            (.exit 2))
         (.seq (.block 3 (.seq (.region [⟨(some 33), .move, [.t 31], none⟩,
              ⟨(some 34), .iaddr 1, [.t 29, .t 31], none⟩,
              ⟨(some 35), .load none, [.t 34], none⟩,
              ⟨(some 9), .move, [.t 33], none⟩,
              ⟨(some 10), .move, [.t 35], none⟩])
           (.seq (.region [⟨(some 36), .move, [.t 7], none⟩,
              ⟨(some 37), .toInt .u64, [.t 36], none⟩,
              ⟨(some 38), .move, [.t 10], none⟩,
              ⟨(some 39), .toInt .u64, [.t 38], none⟩,
              ⟨(some 40), .bin .mul, [.t 37, .t 39], none⟩,
              ⟨(some 41), .move, [.t 5], none⟩,
              ⟨(some 42), .move, [.t 6], none⟩,
              ⟨(some 43), .move, [.t 9], none⟩,
              ⟨(some 44), .bin .add, [.t 42, .t 43], none⟩,
              ⟨(some 45), .iaddr 1, [.t 41, .t 44], none⟩,
              ⟨(some 46), .load none, [.t 45], none⟩,
              ⟨(some 47), .toInt .u64, [.t 46], none⟩,
              ⟨(some 48), .bin .add, [.t 40, .t 47], none⟩,
              ⟨(some 49), .move, [.t 8], none⟩,
              ⟨(some 50), .bin .add, [.t 48, .t 49], none⟩,
              ⟨(some 11), .move, [.t 50], none⟩])
           (.region [⟨(some 51), .move, [.t 5], none⟩,
             ⟨(some 52), .move, [.t 6], none⟩,
             ⟨(some 53), .move, [.t 9], none⟩,
             ⟨(some 54), .bin .add, [.t 52, .t 53], none⟩,
             ⟨(some 55), .move, [.t 11], none⟩,
             ⟨(some 56), .toInt .u32, [.t 55], none⟩,
             ⟨(some 57), .move, [.t 11], none⟩,
             ⟨(some 58), .bin .shr, [.t 57, .c (.int .u64 32)], none⟩,
             ⟨(some 59), .iaddr 1, [.t 51, .t 54], none⟩,
             ⟨none, .store 1, [.t 59, .t 56], none⟩,
             ⟨(some 8), .move, [.t 58], none⟩]))))
         (.region [⟨(some 60), .bin .add, [.t 31, .c (.int .i64 1)], none⟩,
           ⟨(some 31), .move, [.t 60], none⟩])))))))
      (.region [⟨(some 61), .move, [.t 5], none⟩,
        ⟨(some 62), .move, [.t 6], none⟩,
        ⟨(some 63), .faddr 0, [.t 3], none⟩,
        ⟨(some 64), .load none, [.t 63], none⟩,
        ⟨(some 65), .lenL, [.t 64], none⟩,
        ⟨(some 66), .bin .add, [.t 62, .t 65], none⟩,
        ⟨(some 67), .move, [.t 8], none⟩,
        ⟨(some 68), .toInt .u32, [.t 67], none⟩,
        ⟨(some 69), .iaddr 1, [.t 61, .t 66], none⟩,
        ⟨none, .store 1, [.t 69, .t 68], none⟩])))))
    (.region [⟨(some 70), .bin .add, [.t 23, .c (.int .i64 1)], none⟩,
      ⟨(some 23), .move, [.t 70], none⟩]))))))) a51r3
def a51r1 : ACode := .seq (.region [⟨(some 12), .faddr 0, [.t 2], none⟩,
    ⟨(some 13), .load none, [.t 12], none⟩,
    ⟨(some 14), .lenL, [.t 13], none⟩,
    ⟨(some 15), .faddr 0, [.t 3], none⟩,
    ⟨(some 16), .load none, [.t 15], none⟩,
    ⟨(some 17), .lenL, [.t 16], none⟩,
    ⟨(some 18), .bin .add, [.t 14, .t 17], none⟩,
    ⟨(some 19), .mkSl 83 1 4 [.int .u32 0], [.t 18, .t 18], none⟩,
    ⟨(some 5), .move, [.t 19], none⟩]) a51r2
def a51 : ACode := .seq (.region [⟨(some 2), .box, [.t 0], none⟩,
    ⟨(some 3), .box, [.t 1], none⟩,
    ⟨(some 4), .alloc [.nil], [], none⟩]) a51r1
theorem t51 : told Try.prog Try.f51 = some (73, a51, [.cell 4 (some 1)]) := by kernel_rfl

def a52r4 : ACode :=
  .ret
def a52r3 : ACode := .seq (.region [⟨(some 4), .move, [.c (.int .i64 0)], none⟩]) a52r4
def a52r2 : ACode := .seq (.seq (.region [⟨(some 20), .faddr 0, [.t 2], none⟩,
     ⟨(some 21), .load none, [.t 20], none⟩,
     ⟨(some 22), .lenL, [.t 21], none⟩,
     ⟨(some 23), .bin .sub, [.t 22, .c (.int .i64 1)], none⟩,
     ⟨(some 5), .move, [.t 23], none⟩])
  (.block 0 (.loop (.seq (.seq (.region [⟨(some 24), .move, [.t 5], none⟩,
        ⟨(some 25), .bin .geq, [.t 24, .c (.int .i64 0)], none⟩])
     (.cond (.t 25)
       (.skip)
       (.exit 0)))
    (.seq (.block 1 (.seq (.draw [⟨(some 28), .faddr 0, [.t 2], none⟩,
         ⟨(some 29), .load none, [.t 28], none⟩,
         ⟨(some 30), .move, [.t 5], none⟩,
         ⟨(some 31), .iaddr 1, [.t 29, .t 30], none⟩,
         ⟨(some 32), .load none, [.t 31], none⟩,
         ⟨(some 33), .faddr 0, [.t 3], none⟩,
         ⟨(some 34), .load none, [.t 33], none⟩,
         ⟨(some 35), .move, [.t 5], none⟩,
         ⟨(some 36), .iaddr 1, [.t 34, .t 35], none⟩,
         ⟨(some 37), .load none, [.t 36], none⟩,
         ⟨(some 38), .bin .neq, [.t 32, .t 37], none⟩] [0, 1, 0, 7, 15, 0, 32, 0, 224, 480, 1023])
      (.cond (.t 38)
        (.seq (.seq (.draw [⟨(some 39), .faddr 0, [.t 2], none⟩,
            ⟨(some 40), .load none, [.t 39], none⟩,
            ⟨(some 41), .move, [.t 5], none⟩,
            ⟨(some 42), .iaddr 1, [.t 40, .t 41], none⟩,
            ⟨(some 43), .load none, [.t 42], none⟩,
            ⟨(some 44), .faddr 0, [.t 3], none⟩,
            ⟨(some 45), .load none, [.t 44], none⟩,
            ⟨(some 46), .move, [.t 5], none⟩,
            ⟨(some 47), .iaddr 1, [.t 45, .t 46], none⟩,
            ⟨(some 48), .load none, [.t 47], none⟩,
            ⟨(some 49), .bin .lss, [.t 43, .t 48], none⟩] [0, 1, 0, 7, 15, 0, 32, 0, 224, 480, 1023])
         (.cond (.t 49)
           (.seq (.region [⟨(some 4), .move, [.c (.int .i64 (-1))], none⟩])
           (.ret))
           (.skip)))
        (.seq (.region [⟨(some 4), .move, [.c (.int .i64 1)], none⟩])
        (.ret)))
        (.skip))))
    (.region [⟨(some 26), .move, [.t 5], none⟩,
      ⟨(some 27), .bin .sub, [.t 26, .c (.int .i64 1)], none⟩,
      ⟨(some 5), .move, [.t 27], none⟩])))))) a52r3
def a52r1 : ACode := .seq (.seq (.region [⟨(some 6), .faddr 0, [.t 2], none⟩,
     ⟨(some 7), .load none, [.t 6], none⟩,
     ⟨(some 8), .lenL, [.t 7], none⟩,
     ⟨(some 9), .faddr 0, [.t 3], none⟩,
     ⟨(some 10), .load none, [.t 9], none⟩,
     ⟨(some 11), .lenL, [.t 10], none⟩,
     ⟨(some 12), .bin .neq, [.t 8, .t 11], none⟩])
  (.cond (.t 12)
    (.seq (.seq (.region [⟨(some 13), .faddr 0, [.t 2], none⟩,
        ⟨(some 14), .load none, [.t 13], none⟩,
        ⟨(some 15), .lenL, [.t 14], none⟩,
        ⟨(some 16), .faddr 0, [.t 3], none⟩,
        ⟨(some 17), .load none, [.t 16], none⟩,
        ⟨(some 18), .lenL, [.t 17], none⟩,
        ⟨(some 19), .bin .lss, [.t 15, .t 18], none⟩])
     (.cond (.t 19)
       (.seq (.region [⟨(some 4), .move, [.c (.int .i64 (-1))], none⟩])
       (.ret))
       (.skip)))
    (.seq (.region [⟨(some 4), .move, [.c (.int .i64 1)], none⟩])
    (.ret)))
    (.skip))) a52r2
def a52 : ACode := .seq (.region [⟨(some 2), .box, [.t 0], none⟩,
    ⟨(some 3), .box, [.t 1], none⟩,
    ⟨(some 4), .move, [.c (.int .i64 0)], none⟩]) a52r1
theorem t52 : told Try.prog Try.f52 = some (50, a52, [.tmp 4]) := by kernel_rfl

def a53r2 : ACode :=
  .ret
def a53r1 : ACode := .seq (.region [⟨(some 3), .faddr 0, [.t 1], none⟩,
    ⟨(some 4), .load none, [.t 3], none⟩,
    ⟨(some 5), .lenL, [.t 4], none⟩,
    ⟨(some 6), .bin .eql, [.t 5, .c (.int .i64 0)], none⟩,
    ⟨(some 2), .move, [.t 6], none⟩]) a53r2
def a53 : ACode := .seq (.region [⟨(some 1), .box, [.t 0], none⟩,
    ⟨(some 2), .move, [.c (.bool false)], none⟩]) a53r1
theorem t53 : told Try.prog Try.f53 = some (7, a53, [.tmp 2]) := by kernel_rfl

def a54r3 : ACode :=
  .ret
def a54r2 : ACode := .seq (.region [⟨(some 46), .load (some 1), [.t 2], none⟩,
    ⟨none, .store 1, [.t 4, .t 46], none⟩]) a54r3
def a54r1 : ACode := .seq (.block 0 (.loop (.seq (.seq (.region [⟨(some 12), .load (some 1), [.t 3], none⟩,
        ⟨(some 13), .call 53, [.t 12], none⟩,
        ⟨(some 14), .un .not, [.t 13], none⟩])
     (.cond (.t 14)
       (.skip)
       (.exit 0)))
    (.block 1 (.seq (.region [⟨(some 16), .load (some 1), [.t 2], none⟩,
        ⟨(some 17), .call 73, [.t 16], none⟩,
        ⟨(some 15), .move, [.t 17], none⟩,
        ⟨(some 18), .extract 0, [.t 15], none⟩,
        ⟨(some 19), .extract 1, [.t 15], none⟩,
        ⟨(some 5), .move, [.t 18], none⟩,
        ⟨(some 6), .move, [.t 19], none⟩])
     (.seq (.region [⟨(some 21), .load (some 1), [.t 3], none⟩,
        ⟨(some 22), .call 73, [.t 21], none⟩,
        ⟨(some 20), .move, [.t 22], none⟩,
        ⟨(some 23), .extract 0, [.t 20], none⟩,
        ⟨(some 24), .extract 1, [.t 20], none⟩,
        ⟨(some 7), .move, [.t 23], none⟩,
        ⟨(some 8), .move, [.t 24], none⟩])
     (.seq (.seq (.region [⟨(some 25), .move, [.t 6], none⟩,
         ⟨(some 26), .move, [.t 25], none⟩,
         ⟨(some 27), .move, [.t 8], some (26, true)⟩,
         ⟨(some 28), .pick, [.t 26, .t 27, .c (.bool false)], none⟩])
      (.cond (.t 28)
        (.seq (.block 2 (.loop (.seq (.seq (.region [⟨(some 29), .move, [.t 7], none⟩,
               ⟨(some 30), .bin .neq, [.t 29, .c (.int .u64 0)], none⟩])
            (.cond (.t 30)
              (.skip)
              (.exit 2)))
           (.block 3 (.draw [⟨(some 31), .move, [.t 7], none⟩,
              ⟨(some 32), .move, [.t 5], none⟩,
              ⟨(some 33), .move, [.t 7], none⟩,
              ⟨(some 34), .bin .rem, [.t 32, .t 33], none⟩,
              ⟨(some 5), .move, [.t 31], none⟩,
              ⟨(some 7), .move, [.t 34], none⟩] [0, 0, 0, 6, 3, 31])))))
        (.seq (.region [⟨(some 35), .move, [.t 5], none⟩,
           ⟨(some 36), .call 33, [.t 35], none⟩,
           ⟨none, .store 1, [.t 4, .t 36], none⟩])
        (.ret)))
        (.skip)))
     (.seq (.region [⟨(some 38), .load (some 1), [.t 2], none⟩,
        ⟨(some 39), .load (some 1), [.t 3], none⟩,
        ⟨(some 40), .call 56, [.t 38, .t 39], none⟩,
        ⟨(some 37), .move, [.t 40], none⟩,
        ⟨(some 41), .extract 0, [.t 37], none⟩,
        ⟨(some 42), .extract 1, [.t 37], none⟩,
        ⟨(some 43), .extract 2, [.t 37], none⟩,
        ⟨(some 9), .alloc [.nil], [], none⟩,
        ⟨(some 10), .alloc [.nil], [], none⟩,
        ⟨none, .store 1, [.t 9, .t 41], none⟩,
        ⟨none, .store 1, [.t 10, .t 42], none⟩,
        ⟨(some 11), .move, [.t 43], none⟩])
     (.draw [⟨(some 44), .load (some 1), [.t 3], none⟩,
       ⟨(some 45), .load (some 1), [.t 10], none⟩,
       ⟨none, .store 1, [.t 2, .t 44], none⟩,
       ⟨none, .store 1, [.t 3, .t 45], none⟩] [0, 0, 1, 7]))))))))) a54r2
def a54 : ACode := .seq (.region [⟨(some 2), .box, [.t 0], none⟩,
    ⟨(some 3), .box, [.t 1], none⟩,
    ⟨(some 4), .alloc [.nil], [], none⟩]) a54r1
theorem t54 : told Try.prog Try.f54 = some (47, a54, [.cell 4 (some 1)]) := by kernel_rfl

def a55r2 : ACode :=
  .ret
def a55r1 : ACode := .seq (.region [⟨(some 3), .faddr 0, [.t 1], none⟩,
    ⟨(some 4), .load (some 1), [.t 3], none⟩,
    ⟨none, .store 1, [.t 2, .t 4], none⟩]) a55r2
def a55 : ACode := .seq (.region [⟨(some 1), .box, [.t 0], none⟩,
    ⟨(some 2), .alloc [.nil], [], none⟩]) a55r1
theorem t55 : told Try.prog Try.f55 = some (5, a55, [.cell 2 (some 1)]) := by kernel_rfl

def a56r4 : ACode :=
  .ret
def a56r3 : ACode := .seq (.draw [⟨(some 49), .load (some 1), [.t 9], none⟩,
    ⟨(some 50), .load (some 1), [.t 10], none⟩,
    ⟨none, .store 1, [.t 4, .t 49], none⟩,
    ⟨none, .store 1, [.t 5, .t 50], none⟩,
    ⟨(some 6), .move, [.c (.bool true)], none⟩] [0, 0, 1, 7, 15]) a56r4
def a56r2 : ACode := .seq (.region [⟨(some 44), .load (some 1), [.t 2], none⟩,
    ⟨(some 45), .load (some 1), [.t 3], none⟩,
    ⟨(some 46), .call 74, [.t 44, .t 45], none⟩,
    ⟨(some 43), .move, [.t 46], none⟩,
    ⟨(some 47), .extract 0, [.t 43], none⟩,
    ⟨(some 48), .extract 1, [.t 43], none⟩,
    ⟨(some 9), .alloc [.nil], [], none⟩,
    ⟨(some 10), .alloc [.nil], [], none⟩,
    ⟨none, .store 1, [.t 9, .t 47], none⟩,
    ⟨none, .store 1, [.t 10, .t 48], none⟩]) a56r3
def a56r1 : ACode := .seq (.block 0 (.seq (.region [⟨(some 12), .faddr 0, [.t 3], none⟩,
      ⟨(some 13), .load none, [.t 12], none⟩,
      ⟨(some 14), .lenL, [.t 13], none⟩,
      ⟨(some 15), .bin .eql, [.t 14, .c (.int .i64 0)], none⟩,
      ⟨(some 11), .move, [.t 15], none⟩])
   (.cond (.t 11)
     (.seq (.region [⟨(some 16), .build [.nil] [], [], none⟩,
        ⟨(some 17), .build [.nil] [], [], none⟩,
        ⟨none, .store 1, [.t 4, .t 16], none⟩,
        ⟨none, .store 1, [.t 5, .t 17], none⟩,
        ⟨(some 6), .move, [.c (.bool false)], none⟩])
     (.ret))
     (.seq (.region [⟨(some 19), .load (some 1), [.t 2], none⟩,
        ⟨(some 20), .load (some 1), [.t 3], none⟩,
        ⟨(some 21), .call 52, [.t 19, .t 20], none⟩,
        ⟨(some 22), .bin .lss, [.t 21, .c (.int .i64 0)], none⟩,
        ⟨(some 18), .move, [.t 22], none⟩])
     (.cond (.t 18)
       (.seq (.draw [⟨(some 23), .build [.nil] [], [], none⟩,
          ⟨(some 24), .load (some 1), [.t 2], none⟩,
          ⟨none, .store 1, [.t 4, .t 23], none⟩,
          ⟨none, .store 1, [.t 5, .t 24], none⟩,
          ⟨(some 6), .move, [.c (.bool true)], none⟩] [0, 0, 1, 7, 15])
       (.ret))
       (.seq (.region [⟨(some 26), .faddr 0, [.t 3], none⟩,
          ⟨(some 27), .load none, [.t 26], none⟩,
          ⟨(some 28), .lenL, [.t 27], none⟩,
          ⟨(some 29), .bin .eql, [.t 28, .c (.int .i64 1)], none⟩,
          ⟨(some 25), .move, [.t 29], none⟩])
       (.cond (.t 25)
         (.seq (.draw [⟨(some 31), .load (some 1), [.t 2], none⟩,
            ⟨(some 32), .faddr 0, [.t 3], none⟩,
            ⟨(some 33), .load none, [.t 32], none⟩,
            ⟨(some 34), .iaddr 1, [.t 33, .c (.int .i64 0)], none⟩,
            ⟨(some 35), .load none, [.t 34], none⟩,
            ⟨(some 36), .call 59, [.t 31, .t 35], none⟩,
            ⟨(some 30), .move, [.t 36], none⟩,
            ⟨(some 37), .extract 0, [.t 30], none⟩,
            ⟨(some 38), .extract 1, [.t 30], none⟩,
            ⟨(some 7), .alloc [.nil], [], none⟩,
            ⟨none, .store 1, [.t 7, .t 37], none⟩,
            ⟨(some 8), .move, [.t 38], none⟩] [0, 0, 2, 6, 14, 31, 63, 127, 127, 0, 767, 2047])
         (.seq (.draw [⟨(some 39), .load (some 1), [.t 7], none⟩,
            ⟨(some 40), .move, [.t 8], none⟩,
            ⟨(some 41), .toInt .u64, [.t 40], none⟩,
            ⟨(some 42), .call 33, [.t 41], none⟩,
            ⟨none, .store 1, [.t 4, .t 39], none⟩,
            ⟨none, .store 1, [.t 5, .t 42], none⟩,
            ⟨(some 6), .move, [.c (.bool true)], none⟩] [0, 0, 2, 6, 15, 31, 63])
         (.ret)))
         (.skip)))))))) a56r2
def a56 : ACode := .seq (.region [⟨(some 2), .box, [.t 0], none⟩,
    ⟨(some 3), .box, [.t 1], none⟩,
    ⟨(some 4), .alloc [.nil], [], none⟩,
    ⟨(some 5), .alloc [.nil], [], none⟩,
    ⟨(some 6), .move, [.c (.bool false)], none⟩]) a56r1
theorem t56 : told Try.prog Try.f56 = some (51, a56, [.cell 4 (some 1), .cell 5 (some 1), .tmp 6]) := by kernel_rfl

def a57r5 : ACode :=
  .ret
def a57r4 : ACode := .seq (.region [⟨(some 43), .faddr 1, [.t 3], none⟩,
    ⟨(some 44), .load none, [.t 43], none⟩,
    ⟨(some 45), .load (some 1), [.t 7], none⟩,
    ⟨(some 46), .call 43, [.t 44, .t 45], none⟩,
    ⟨none, .store 2, [.t 4, .t 46], none⟩]) a57r5
def a57r3 : ACode := .seq (.region [⟨(some 36), .faddr 0, [.t 3], none⟩,
    ⟨(some 37), .load (some 1), [.t 36], none⟩,
    ⟨(some 38), .faddr 0, [.t 2], none⟩,
    ⟨(some 39), .load (some 1), [.t 38], none⟩,
    ⟨(some 40), .call 75, [.t 37, .t 39], none⟩,
    ⟨(some 35), .move, [.t 40], none⟩,
    ⟨(some 41), .extract 0, [.t 35], none⟩,
    ⟨(some 42), .extract 1, [.t 35], none⟩,
    ⟨(some 7), .alloc [.nil], [], none⟩,
    ⟨none, .store 1, [.t 7, .t 41], none⟩,
    ⟨(some 8), .move, [.t 42], none⟩]) a57r4
def a57r2 : ACode := .seq (.seq (.region [⟨(some 23), .faddr 0, [.t 2], none⟩,
     ⟨(some 24), .load (some 1), [.t 23], none⟩,
     ⟨(some 25), .faddr 0, [.t 3], none⟩,
     ⟨(some 26), .load (some 1), [.t 25], none⟩,
     ⟨(some 27), .call 75, [.t 24, .t 26], none⟩,
     ⟨(some 22), .move, [.t 27], none⟩,
     ⟨(some 28), .extract 0, [.t 22], none⟩,
     ⟨(some 29), .extract 1, [.t 22], none⟩,
     ⟨(some 5), .alloc [.nil], [], none⟩,
     ⟨none, .store 1, [.t 5, .t 28], none⟩,
     ⟨(some 6), .move, [.t 29], none⟩])
  (.seq (.region [⟨(some 30), .move, [.t 6], none⟩])
  (.cond (.t 30)
    (.seq (.region [⟨(some 31), .faddr 1, [.t 2], none⟩,
       ⟨(some 32), .load none, [.t 31], none⟩,
       ⟨(some 33), .load (some 1), [.t 5], none⟩,
       ⟨(some 34), .call 43, [.t 32, .t 33], none⟩,
       ⟨none, .store 2, [.t 4, .t 34], none⟩])
    (.ret))
    (.skip)))) a57r3
def a57r1 : ACode := .seq (.seq (.region [⟨(some 9), .faddr 1, [.t 2], none⟩,
     ⟨(some 10), .load none, [.t 9], none⟩,
     ⟨(some 11), .faddr 1, [.t 3], none⟩,
     ⟨(some 12), .load none, [.t 11], none⟩,
     ⟨(some 13), .binB false, [.t 10, .t 12], none⟩])
  (.cond (.t 13)
    (.seq (.draw [⟨(some 14), .faddr 1, [.t 2], none⟩,
       ⟨(some 15), .load none, [.t 14], none⟩,
       ⟨(some 16), .faddr 0, [.t 2], none⟩,
       ⟨(some 17), .load (some 1), [.t 16], none⟩,
       ⟨(some 18), .faddr 0, [.t 3], none⟩,
       ⟨(some 19), .load (some 1), [.t 18], none⟩,
       ⟨(some 20), .call 62, [.t 17, .t 19], none⟩,
       ⟨(some 21), .call 43, [.t 15, .t 20], none⟩,
       ⟨none, .store 2, [.t 4, .t 21], none⟩] [0, 1, 0, 4, 0, 16, 60, 127, 255])
    (.ret))
    (.skip))) a57r2
def a57 : ACode := .seq (.region [⟨(some 2), .box, [.t 0], none⟩,
    ⟨(some 3), .box, [.t 1], none⟩,
    ⟨(some 4), .alloc [.nil, .bool false], [], none⟩]) a57r1
theorem t57 : told Try.prog Try.f57 = some (47, a57, [.cell 4 (some 2)]) := by kernel_rfl

def a58r3 : ACode :=
  .ret
def a58r2 : ACode := .seq (.region [⟨(some 20), .move, [.t 0], none⟩,
    ⟨(some 21), .build [.nil] [(0, 1)], [.t 20], none⟩,
    ⟨none, .store 1, [.t 2, .t 21], none⟩]) a58r3
def a58r1 : ACode := .seq (.block 0 (.loop (.seq (.seq (.region [⟨(some 3), .move, [.t 0], none⟩,
        ⟨(some 4), .lenL, [.t 3], none⟩,
        ⟨(some 5), .bin .gtr, [.t 4, .c (.int .i64 0)], none⟩,
        ⟨(some 6), .move, [.t 5], none⟩,
        ⟨(some 7), .move, [.t 0], some (6, true)⟩,
        ⟨(some 8), .move, [.t 0], some (6, true)⟩,
        ⟨(some 9), .lenL, [.t 8], some (6, true)⟩,
        ⟨(some 10), .bin .sub, [.t 9, .c (.int .i64 1)], some (6, true)⟩,
        ⟨(some 11), .iaddr 1, [.t 7, .t 10], some (6, true)⟩,
        ⟨(some 12), .load none, [.t 11], some (6, true)⟩,
        ⟨(some 13), .bin .eql, [.t 12, .c (.int .u32 0)], some (6, true)⟩,
        ⟨(some 14), .pick, [.t 6, .t 13, .c (.bool false)], none⟩])
     (.cond (.t 14)
       (.skip)
       (.exit 0)))
    (.block 1 (.region [⟨(some 15), .move, [.t 0], none⟩,
       ⟨(some 16), .move, [.t 0], none⟩,
       ⟨(some 17), .lenL, [.t 16], none⟩,
       ⟨(some 18), .bin .sub, [.t 17, .c (.int .i64 1)], none⟩,
       ⟨(some 19), .sliceL 1 false true, [.t 15, .t 18], none⟩,
       ⟨(some 0), .move, [.t 19], none⟩]))))) a58r2
def a58 : ACode := .seq (.region [⟨(some 2), .alloc [.nil], [], none⟩]) a58r1
theorem t58 : told Try.prog Try.f58 = some (22, a58, [.cell 2 (some 1)]) := by kernel_rfl

def a59r5 : ACode :=
  .ret
def a59r4 : ACode := .seq (.region [⟨(some 43), .move, [.t 6], none⟩,
    ⟨(some 44), .call 58, [.t 43], none⟩,
    ⟨(some 45), .move, [.t 7], none⟩,
    ⟨(some 46), .toInt .u32, [.t 45], none⟩,
    ⟨none, .store 1, [.t 4, .t 44], none⟩,
    ⟨(some 5), .move, [.t 46], none⟩]) a59r5
def a59r3 : ACode := .seq (.seq (.region [⟨(some 14), .faddr 0, [.t 2], none⟩,
     ⟨(some 15), .load none, [.t 14], none⟩,
     ⟨(some 16), .lenL, [.t 15], none⟩,
     ⟨(some 17), .bin .sub, [.t 16, .c (.int .i64 1)], none⟩,
     ⟨(some 8), .move, [.t 17], none⟩])
  (.block 0 (.loop (.seq (.seq (.region [⟨(some 18), .move, [.t 8], none⟩,
        ⟨(some 19), .bin .geq, [.t 18, .c (.int .i64 0)], none⟩])
     (.cond (.t 19)
       (.skip)
       (.exit 0)))
    (.seq (.block 1 (.seq (.region [⟨(some 22), .move, [.t 7], none⟩,
         ⟨(some 23), .bin .shl, [.t 22, .c (.int .u64 32)], none⟩,
         ⟨(some 24), .faddr 0, [.t 2], none⟩,
         ⟨(some 25), .load none, [.t 24], none⟩,
         ⟨(some 26), .move, [.t 8], none⟩,
         ⟨(some 27), .iaddr 1, [.t 25, .t 26], none⟩,
         ⟨(some 28), .load none, [.t 27], none⟩,
         ⟨(some 29), .toInt .u64, [.t 28], none⟩,
         ⟨(some 30), .bin .or, [.t 23, .t 29], none⟩,
         ⟨(some 9), .move, [.t 30], none⟩])
      (.draw [⟨(some 31), .move, [.t 6], none⟩,
        ⟨(some 32), .move, [.t 8], none⟩,
        ⟨(some 33), .move, [.t 9], none⟩,
        ⟨(some 34), .move, [.t 1], none⟩,
        ⟨(some 35), .toInt .u64, [.t 34], none⟩,
        ⟨(some 36), .bin .quo, [.t 33, .t 35], none⟩,
        ⟨(some 37), .toInt .u32, [.t 36], none⟩,
        ⟨(some 38), .move, [.t 9], none⟩,
        ⟨(some 39), .move, [.t 1], none⟩,
        ⟨(some 40), .toInt .u64, [.t 39], none⟩,
        ⟨(some 41), .bin .rem, [.t 38, .t 40], none⟩,
        ⟨(some 42), .iaddr 1, [.t 31, .t 32], none⟩,
        ⟨none, .store 1, [.t 42, .t 37], none⟩,
        ⟨(some 7), .move, [.t 41], none⟩] [0, 0, 0, 0, 8, 28, 60, 0, 0, 256, 896, 127, 2175, 8191])))
    (.region [⟨(some 20), .move, [.t 8], none⟩,
      ⟨(some 21), .bin .sub, [.t 20, .c (.int .i64 1)], none⟩,
      ⟨(some 8), .move, [.t 21], none⟩])))))) a59r4
def a59r2 : ACode := .seq (.region [⟨(some 7), .move, [.c (.int .u64 0)], none⟩]) a59r3
def a59r1 : ACode := .seq (.region [⟨(some 10), .faddr 0, [.t 2], none⟩,
    ⟨(some 11), .load none, [.t 10], none⟩,
    ⟨(some 12), .lenL, [.t 11], none⟩,
    ⟨(some 13), .mkSl 83 1 4 [.int .u32 0], [.t 12, .t 12], none⟩,
    ⟨(some 6), .move, [.t 13], none⟩]) a59r2
def a59 : ACode := .seq (.region [⟨(some 2), .box, [.t 0], none⟩,
    ⟨(some 4), .alloc [.nil], [], none⟩,
    ⟨(some 5), .move, [.c (.int .u32 0)], none⟩]) a59r1
theorem t59 : told Try.prog Try.f59 = some (47, a59, [.cell 4 (some 1), .tmp 5]) := by kernel_rfl

def a60r5 : ACode :=
  .ret
def a60r4 : ACode := .seq (.region [⟨(some 23), .move, [.t 3], none⟩,
    ⟨(some 24), .call 76, [.t 23], none⟩,
    ⟨(some 2), .move, [.t 24], none⟩]) a60r5
def a60r3 : ACode := .seq (.seq (.region [⟨(some 4), .move, [.c (.int .i64 0)], none⟩])
  (.block 0 (.loop (.seq (.seq (.region [⟨(some 7), .move, [.t 4], none⟩,
        ⟨(some 8), .bin .lss, [.t 7, .c (.int .i64 20)], none⟩,
        ⟨(some 9), .move, [.t 8], none⟩,
        ⟨(some 10), .move, [.t 0], some (9, true)⟩,
        ⟨(some 11), .bin .gtr, [.t 10, .c (.int .u64 0)], some (9, true)⟩,
        ⟨(some 12), .pick, [.t 9, .t 11, .c (.bool false)], none⟩])
     (.cond (.t 12)
       (.skip)
       (.exit 0)))
    (.seq (.block 1 (.seq (.region [⟨(some 15), .move, [.t 3], none⟩,
         ⟨(some 16), .move, [.t 0], none⟩,
         ⟨(some 17), .bin .rem, [.t 16, .c (.int .u64 10)], none⟩,
         ⟨(some 18), .toInt .i64, [.t 17], none⟩,
         ⟨(some 19), .buildSl 3 1, [.t 18], none⟩,
         ⟨(some 20), .app 3 1 8, [.t 15, .t 19], none⟩,
         ⟨(some 3), .move, [.t 20], none⟩])
      (.region [⟨(some 21), .move, [.t 0], none⟩,
        ⟨(some 22), .bin .quo, [.t 21, .c (.int .u64 10)], none⟩,
        ⟨(some 0), .move, [.t 22], none⟩])))
    (.region [⟨(some 13), .move, [.t 4], none⟩,
      ⟨(some 14), .bin .add, [.t 13, .c (.int .i64 1)], none⟩,
      ⟨(some 4), .move, [.t 14], none⟩])))))) a60r4
def a60r2 : ACode := .seq (.region [⟨(some 3), .move, [.c (.nil)], none⟩]) a60r3
def a60r1 : ACode := .seq (.seq (.region [⟨(some 5), .move, [.t 0], none⟩,
     ⟨(some 6), .bin .eql, [.t 5, .c (.int .u64 0)], none⟩])
  (.cond (.t 6)
    (.seq (.region [⟨(some 2), .move, [.c (.str ⟨#[48]⟩)], none⟩])
    (.ret))
    (.skip))) a60r2
def a60 : ACode := .seq (.region [⟨(some 2), .move, [.c (.str ⟨#[]⟩)], none⟩]) a60r1
theorem t60 : told Try.prog Try.f60 = some (25, a60, [.tmp 2]) := by kernel_rfl

def a61r5 : ACode :=
  .ret
def a61r4 : ACode := .seq (.region [⟨(some 46), .move, [.t 6], none⟩,
    ⟨(some 47), .b2s, [.t 46], none⟩,
    ⟨(some 48), .call 40, [.t 47], none⟩,
    ⟨(some 49), .move, [.t 7], none⟩,
    ⟨(some 4), .move, [.t 48], none⟩,
    ⟨(some 5), .move, [.t 49], none⟩]) a61r5
def a61r3 : ACode := .seq (.seq (.region [⟨(some 8), .move, [.c (.int .i64 0)], none⟩])
  (.block 0 (.loop (.seq (.seq (.region [⟨(some 13), .move, [.t 8], none⟩,
        ⟨(some 14), .move, [.t 0], none⟩,
        ⟨(some 15), .lenS, [.t 14], none⟩,
        ⟨(some 16), .bin .lss, [.t 13, .t 15], none⟩])
     (.cond (.t 16)
       (.skip)
       (.exit 0)))
    (.seq (.block 1 (.seq (.region [⟨(some 19), .move, [.t 7], none⟩,
         ⟨(some 20), .move, [.t 0], none⟩,
         ⟨(some 21), .move, [.t 8], none⟩,
         ⟨(some 22), .move, [.t 8], none⟩,
         ⟨(some 23), .bin .add, [.t 22, .c (.int .i64 1)], none⟩,
         ⟨(some 24), .sliceS true true, [.t 20, .t 21, .t 23], none⟩,
         ⟨(some 25), .bin .add, [.t 19, .t 24], none⟩,
         ⟨(some 26), .call 40, [.t 25], none⟩,
         ⟨(some 7), .move, [.t 26], none⟩])
      (.seq (.region [⟨(some 9), .move, [.c (.int .i64 0)], none⟩])
      (.seq (.block 2 (.loop (.seq (.seq (.region [⟨(some 27), .move, [.t 7], none⟩,
             ⟨(some 28), .move, [.t 1], none⟩,
             ⟨(some 29), .call 77, [.t 27, .t 28], none⟩,
             ⟨(some 30), .bin .geq, [.t 29, .c (.int .i64 0)], none⟩,
             ⟨(some 31), .move, [.t 30], none⟩,
             ⟨(some 32), .move, [.t 9], some (31, true)⟩,
             ⟨(some 33), .bin .lss, [.t 32, .c (.int .i64 10)], some (31, true)⟩,
             ⟨(some 34), .pick, [.t 31, .t 33, .c (.bool false)], none⟩])
          (.cond (.t 34)
            (.skip)
            (.exit 2)))
         (.block 3 (.seq (.region [⟨(some 35), .move, [.t 7], none⟩,
             ⟨(some 36), .move, [.t 1], none⟩,
             ⟨(some 37), .call 78, [.t 35, .t 36], none⟩,
             ⟨(some 7), .move, [.t 37], none⟩])
          (.region [⟨(some 38), .move, [.t 9], none⟩,
            ⟨(some 39), .bin .add, [.t 38, .c (.int .i64 1)], none⟩,
            ⟨(some 9), .move, [.t 39], none⟩]))))))
      (.region [⟨(some 40), .move, [.t 6], none⟩,
        ⟨(some 41), .move, [.t 9], none⟩,
        ⟨(some 42), .bin .add, [.c (.int .i64 48), .t 41], none⟩,
        ⟨(some 43), .toInt .u8, [.t 42], none⟩,
        ⟨(some 44), .buildSl 5 1, [.t 43], none⟩,
        ⟨(some 45), .app 5 1 1, [.t 40, .t 44], none⟩,
        ⟨(some 6), .move, [.t 45], none⟩])))))
    (.region [⟨(some 17), .move, [.t 8], none⟩,
      ⟨(some 18), .bin .add, [.t 17, .c (.int .i64 1)], none⟩,
      ⟨(some 8), .move, [.t 18], none⟩])))))) a61r4
def a61r2 : ACode := .seq (.region [⟨(some 7), .move, [.c (.str ⟨#[48]⟩)], none⟩]) a61r3
def a61r1 : ACode := .seq (.region [⟨(some 10), .move, [.t 0], none⟩,
    ⟨(some 11), .lenS, [.t 10], none⟩,
    ⟨(some 12), .mkSl 5 1 1 [.int .u8 0], [.c (.int .i64 0), .t 11], none⟩,
    ⟨(some 6), .move, [.t 12], none⟩]) a61r2
def a61 : ACode := .seq (.region [⟨(some 4), .move, [.c (.str ⟨#[]⟩)], none⟩,
    ⟨(some 5), .move, [.c (.str ⟨#[]⟩)], none⟩]) a61r1
theorem t61 : told Try.prog Try.f61 = some (50, a61, [.tmp 4, .tmp 5]) := by kernel_rfl

def a62r8 : ACode :=
  .ret
def a62r7 : ACode := .seq (.region [⟨(some 58), .move, [.t 7], none⟩,
    ⟨(some 59), .call 58, [.t 58], none⟩,
    ⟨none, .store 1, [.t 4, .t 59], none⟩]) a62r8
def a62r6 : ACode := .seq (.region [⟨(some 53), .move, [.t 7], none⟩,
    ⟨(some 54), .move, [.t 5], none⟩,
    ⟨(some 55), .lenL, [.t 54], none⟩,
    ⟨(some 56), .move, [.t 8], none⟩,
    ⟨(some 57), .iaddr 1, [.t 53, .t 55], none⟩,
    ⟨none, .store 1, [.t 57, .t 56], none⟩]) a62r7
def a62r5 : ACode := .seq (.seq (.region [⟨(some 26), .move, [.t 5], none⟩,
     ⟨(some 27), .lenL, [.t 26], none⟩,
     ⟨(some 28), .move, [.c (.int .i64 0)], none⟩])
  (.block 0 (.loop (.seq (.region [⟨(some 29), .bin .lss, [.t 28, .t 27], none⟩])
    (.seq (.cond (.t 29)
       (.skip)
       (.exit 0))
    (.seq (.block 1 (.seq (.region [⟨(some 30), .move, [.t 28], none⟩,
         ⟨(some 9), .move, [.t 30], none⟩])
      (.seq (.region [⟨(some 10), .move, [.c (.int .u32 0)], none⟩])
      (.seq (.seq (.region [⟨(some 31), .move, [.t 9], none⟩,
          ⟨(some 32), .move, [.t 6], none⟩,
          ⟨(some 33), .lenL, [.t 32], none⟩,
          ⟨(some 34), .bin .lss, [.t 31, .t 33], none⟩])
       (.cond (.t 34)
         (.region [⟨(some 35), .move, [.t 6], none⟩,
           ⟨(some 36), .move, [.t 9], none⟩,
           ⟨(some 37), .iaddr 1, [.t 35, .t 36], none⟩,
           ⟨(some 38), .load none, [.t 37], none⟩,
           ⟨(some 10), .move, [.t 38], none⟩])
         (.skip)))
      (.region [⟨(some 40), .move, [.t 7], none⟩,
        ⟨(some 41), .move, [.t 9], none⟩,
        ⟨(some 42), .move, [.t 5], none⟩,
        ⟨(some 43), .move, [.t 9], none⟩,
        ⟨(some 44), .iaddr 1, [.t 42, .t 43], none⟩,
        ⟨(some 45), .load none, [.t 44], none⟩,
        ⟨(some 46), .move, [.t 10], none⟩,
        ⟨(some 47), .move, [.t 8], none⟩,
        ⟨(some 48), .call 79, [.t 45, .t 46, .t 47], none⟩,
        ⟨(some 39), .move, [.t 48], none⟩,
        ⟨(some 49), .extract 0, [.t 39], none⟩,
        ⟨(some 50), .extract 1, [.t 39], none⟩,
        ⟨(some 51), .iaddr 1, [.t 40, .t 41], none⟩,
        ⟨none, .store 1, [.t 51, .t 49], none⟩,
        ⟨(some 8), .move, [.t 50], none⟩])))))
    (.region [⟨(some 52), .bin .add, [.t 28, .c (.int .i64 1)], none⟩,
      ⟨(some 28), .move, [.t 52], none⟩]))))))) a62r6
def a62r4 : ACode := .seq (.region [⟨(some 8), .move, [.c (.int .u32 0)], none⟩]) a62r5
def a62r3 : ACode := .seq (.region [⟨(some 22), .move, [.t 5], none⟩,
    ⟨(some 23), .lenL, [.t 22], none⟩,
    ⟨(some 24), .bin .add, [.t 23, .c (.int .i64 1)], none⟩,
    ⟨(some 25), .mkSl 83 1 4 [.int .u32 0], [.t 24, .t 24], none⟩,
    ⟨(some 7), .move, [.t 25], none⟩]) a62r4
def a62r2 : ACode := .seq (.seq (.region [⟨(some 15), .move, [.t 5], none⟩,
     ⟨(some 16), .lenL, [.t 15], none⟩,
     ⟨(some 17), .move, [.t 6], none⟩,
     ⟨(some 18), .lenL, [.t 17], none⟩,
     ⟨(some 19), .bin .lss, [.t 16, .t 18], none⟩])
  (.cond (.t 19)
    (.region [⟨(some 20), .move, [.t 6], none⟩,
      ⟨(some 21), .move, [.t 5], none⟩,
      ⟨(some 5), .move, [.t 20], none⟩,
      ⟨(some 6), .move, [.t 21], none⟩])
    (.skip))) a62r3
def a62r1 : ACode := .seq (.draw [⟨(some 11), .faddr 0, [.t 2], none⟩,
    ⟨(some 12), .load none, [.t 11], none⟩,
    ⟨(some 13), .faddr 0, [.t 3], none⟩,
    ⟨(some 14), .load none, [.t 13], none⟩,
    ⟨(some 5), .move, [.t 12], none⟩,
    ⟨(some 6), .move, [.t 14], none⟩] [0, 1, 0, 4, 3, 31]) a62r2
def a62 : ACode := .seq (.region [⟨(some 2), .box, [.t 0], none⟩,
    ⟨(some 3), .box, [.t 1], none⟩,
    ⟨(some 4), .alloc [.nil], [], none⟩]) a62r1
theorem t62 : told Try.prog Try.f62 = some (60, a62, [.cell 4 (some 1)]) := by kernel_rfl

def a63r2 : ACode :=
  .ret
def a63r1 : ACode := .seq (.region [⟨(some 3), .load (some 3), [.t 1], none⟩,
    ⟨(some 4), .call 37, [.t 3], none⟩,
    ⟨(some 5), .call 80, [.t 4], none⟩,
    ⟨(some 2), .move, [.t 5], none⟩]) a63r2
def a63 : ACode := .seq (.region [⟨(some 1), .box, [.t 0], none⟩,
    ⟨(some 2), .move, [.c (.bool false)], none⟩]) a63r1
theorem t63 : told Try.prog Try.f63 = some (6, a63, [.tmp 2]) := by kernel_rfl

def a64r4 : ACode :=
  .ret
def a64r3 : ACode := .seq (.region [⟨(some 36), .move, [.t 4], none⟩,
    ⟨(some 37), .toInt .i64, [.t 36], none⟩,
    ⟨(some 2), .move, [.t 37], none⟩,
    ⟨(some 3), .move, [.c (.bool true)], none⟩]) a64r4
def a64r2 : ACode := .seq (.block 0 (.seq (.region [⟨(some 13), .move, [.t 5], none⟩,
      ⟨(some 14), .un .not, [.t 13], none⟩,
      ⟨(some 15), .move, [.t 14], none⟩,
      ⟨(some 16), .move, [.t 4], some (15, false)⟩,
      ⟨(some 17), .bin .gtr, [.t 16, .c (.int .u64 9223372036854775808)], some (15, false)⟩,
      ⟨(some 18), .pick, [.t 15, .c (.bool true), .t 17], none⟩,
      ⟨(some 19), .move, [.t 18], none⟩,
      ⟨(some 20), .move, [.t 4], some (19, false)⟩,
      ⟨(some 21), .bin .eql, [.t 20, .c (.int .u64 9223372036854775808)], some (19, false)⟩,
      ⟨(some 22), .move, [.t 21], some (19, false)⟩,
      ⟨(some 23), .faddr 1, [.t 1], some (22, true)⟩,
      ⟨(some 24), .load none, [.t 23], some (22, true)⟩,
      ⟨(some 25), .un .not, [.t 24], some (22, true)⟩,
      ⟨(some 26), .pick, [.t 22, .t 25, .c (.bool false)], some (19, false)⟩,
      ⟨(some 27), .pick, [.t 19, .c (.bool true), .t 26], none⟩,
      ⟨(some 12), .move, [.t 27], none⟩])
   (.cond (.t 12)
     (.seq (.region [⟨(some 2), .move, [.c (.int .i64 0)], none⟩,
        ⟨(some 3), .move, [.c (.bool false)], none⟩])
     (.ret))
     (.seq (.region [⟨(some 29), .faddr 1, [.t 1], none⟩,
        ⟨(some 30), .load none, [.t 29], none⟩,
        ⟨(some 28), .move, [.t 30], none⟩])
     (.cond (.t 28)
       (.seq (.region [⟨(some 31), .move, [.t 4], none⟩,
          ⟨(some 32), .bin .sub, [.t 31, .c (.int .u64 1)], none⟩,
          ⟨(some 33), .toInt .i64, [.t 32], none⟩,
          ⟨(some 34), .un .neg, [.t 33], none⟩,
          ⟨(some 35), .bin .sub, [.t 34, .c (.int .i64 1)], none⟩,
          ⟨(some 2), .move, [.t 35], none⟩,
          ⟨(some 3), .move, [.c (.bool true)], none⟩])
       (.ret))
       (.skip)))))) a64r3
def a64r1 : ACode := .seq (.region [⟨(some 7), .faddr 0, [.t 1], none⟩,
    ⟨(some 8), .load (some 1), [.t 7], none⟩,
    ⟨(some 9), .call 73, [.t 8], none⟩,
    ⟨(some 6), .move, [.t 9], none⟩,
    ⟨(some 10), .extract 0, [.t 6], none⟩,
    ⟨(some 11), .extract 1, [.t 6], none⟩,
    ⟨(some 4), .move, [.t 10], none⟩,
    ⟨(some 5), .move, [.t 11], none⟩]) a64r2
def a64 : ACode := .seq (.region [⟨(some 1), .box, [.t 0], none⟩,
    ⟨(some 2), .move, [.c (.int .i64 0)], none⟩,
    ⟨(some 3), .move, [.c (.bool false)], none⟩]) a64r1
theorem t64 : told Try.prog Try.f64 = some (38, a64, [.tmp 2, .tmp 3]) := by kernel_rfl

def a65r2 : ACode :=
  .ret
def a65r1 : ACode := .seq (.region [⟨(some 3), .faddr 1, [.t 1], none⟩,
    ⟨(some 4), .load none, [.t 3], none⟩,
    ⟨(some 5), .un .not, [.t 4], none⟩,
    ⟨(some 6), .faddr 0, [.t 1], none⟩,
    ⟨(some 7), .load (some 1), [.t 6], none⟩,
    ⟨(some 8), .call 43, [.t 5, .t 7], none⟩,
    ⟨none, .store 2, [.t 2, .t 8], none⟩]) a65r2
def a65 : ACode := .seq (.region [⟨(some 1), .box, [.t 0], none⟩,
    ⟨(some 2), .alloc [.nil, .bool false], [], none⟩]) a65r1
theorem t65 : told Try.prog Try.f65 = some (9, a65, [.cell 2 (some 2)]) := by kernel_rfl

def a66r2 : ACode :=
  .ret
def a66r1 : ACode := .seq (.draw [⟨(some 3), .load (some 2), [.t 1], none⟩,
    ⟨(some 4), .call 33, [.c (.int .u64 1)], none⟩,
    ⟨(some 5), .build [.nil, .bool false, .nil] [(0, 2), (2, 1)], [.t 3, .t 4], none⟩,
    ⟨none, .store 3, [.t 2, .t 5], none⟩] [0, 0, 3, 7]) a66r2
def a66 : ACode := .seq (.region [⟨(some 1), .box, [.t 0], none⟩,
    ⟨(some 2), .alloc [.nil, .bool false, .nil], [], none⟩]) a66r1
theorem t66 : told Try.prog Try.f66 = some (6, a66, [.cell 2 (some 3)]) := by kernel_rfl

def a67r3 : ACode :=
  .ret
def a67r2 : ACode := .seq (.region [⟨(some 15), .load (some 2), [.t 3], none⟩,
    ⟨none, .store 2, [.t 2, .t 15], none⟩]) a67r3
def a67r1 : ACode := .seq (.draw [⟨(some 7), .faddr 0, [.t 1], none⟩,
    ⟨(some 8), .load (some 2), [.t 7], none⟩,
    ⟨(some 9), .load (some 3), [.t 1], none⟩,
    ⟨(some 10), .call 28, [.t 9], none⟩,
    ⟨(some 11), .call 72, [.t 8, .t 10], none⟩,
    ⟨(some 6), .move, [.t 11], none⟩,
    ⟨(some 12), .extract 0, [.t 6], none⟩,
    ⟨(some 13), .extract 1, [.t 6], none⟩,
    ⟨(some 14), .extract 2, [.t 6], none⟩,
    ⟨(some 3), .alloc [.nil, .bool false], [], none⟩,
    ⟨(some 4), .alloc [.nil, .bool false], [], none⟩,
    ⟨none, .store 2, [.t 3, .t 12], none⟩,
    ⟨none, .store 2, [.t 4, .t 13], none⟩,
    ⟨(some 5), .move, [.t 14], none⟩] [0, 1, 0, 4, 15, 31, 63, 63, 63, 0, 0, 1663, 3839, 8191]) a67r2
def a67 : ACode := .seq (.region [⟨(some 1), .box, [.t 0], none⟩,
    ⟨(some 2), .alloc [.nil, .bool false], [], none⟩]) a67r1
theorem t67 : told Try.prog Try.f67 = some (16, a67, [.cell 2 (some 2)]) := by kernel_rfl

def a68r2 : ACode :=
  .ret
def a68r1 : ACode := .seq (.region [⟨(some 3), .load (some 3), [.t 1], none⟩,
    ⟨(some 4), .call 63, [.t 3], none⟩,
    ⟨(some 5), .move, [.t 4], none⟩,
    ⟨(some 6), .faddr 0, [.t 1], some (5, true)⟩,
    ⟨(some 7), .faddr 0, [.t 6], some (5, true)⟩,
    ⟨(some 8), .load (some 1), [.t 7], some (5, true)⟩,
    ⟨(some 9), .call 53, [.t 8], some (5, true)⟩,
    ⟨(some 10), .move, [.t 9], some (5, true)⟩,
    ⟨(some 11), .faddr 0, [.t 1], some (10, false)⟩,
    ⟨(some 12), .faddr 0, [.t 11], some (10, false)⟩,
    ⟨(some 13), .load (some 1), [.t 12], some (10, false)⟩,
    ⟨(some 14), .call 80, [.t 13], some (10, false)⟩,
    ⟨(some 15), .pick, [.t 10, .c (.bool true), .t 14], some (5, true)⟩,
    ⟨(some 16), .pick, [.t 5, .t 15, .c (.bool false)], none⟩,
    ⟨(some 2), .move, [.t 16], none⟩]) a68r2
def a68 : ACode := .seq (.region [⟨(some 1), .box, [.t 0], none⟩,
    ⟨(some 2), .move, [.c (.bool false)], none⟩]) a68r1
theorem t68 : told Try.prog Try.f68 = some (17, a68, [.tmp 2]) := by kernel_rfl

def a69r2 : ACode :=
  .ret
def a69r1 : ACode := .seq (.region [⟨(some 3), .faddr 0, [.t 1], none⟩,
    ⟨(some 4), .load (some 2), [.t 3], none⟩,
    ⟨none, .store 2, [.t 2, .t 4], none⟩]) a69r2
def a69 : ACode := .seq (.region [⟨(some 1), .box, [.t 0], none⟩,
    ⟨(some 2), .alloc [.nil, .bool false], [], none⟩]) a69r1
theorem t69 : told Try.prog Try.f69 = some (5, a69, [.cell 2 (some 2)]) := by kernel_rfl

def a70r2 : ACode :=
  .ret
def a70r1 : ACode := .seq (.region [⟨(some 3), .faddr 0, [.t 1], none⟩,
    ⟨(some 4), .load none, [.t 3], none⟩,
    ⟨(some 5), .lenL, [.t 4], none⟩,
    ⟨(some 6), .bin .eql, [.t 5, .c (.int .i64 0)], none⟩,
    ⟨(some 7), .move, [.t 6], none⟩,
    ⟨(some 8), .faddr 0, [.t 1], some (7, false)⟩,
    ⟨(some 9), .load none, [.t 8], some (7, false)⟩,
    ⟨(some 10), .iaddr 1, [.t 9, .c (.int .i64 0)], some (7, false)⟩,
    ⟨(some 11), .load none, [.t 10], some (7, false)⟩,
    ⟨(some 12), .bin .and, [.t 11, .c (.int .u32 1)], some (7, false)⟩,
    ⟨(some 13), .bin .eql, [.t 12, .c (.int .u32 0)], some (7, false)⟩,
    ⟨(some 14), .pick, [.t 7, .c (.bool true), .t 13], none⟩,
    ⟨(some 2), .move, [.t 14], none⟩]) a70r2
def a70 : ACode := .seq (.region [⟨(some 1), .box, [.t 0], none⟩,
    ⟨(some 2), .move, [.c (.bool false)], none⟩]) a70r1
theorem t70 : told Try.prog Try.f70 = some (15, a70, [.tmp 2]) := by kernel_rfl

def a71r6 : ACode :=
  .ret
def a71r5 : ACode := .seq (.draw [⟨(some 71), .faddr 0, [.t 3], none⟩,
    ⟨(some 72), .load (some 2), [.t 71], none⟩,
    ⟨(some 73), .call 35, [.t 72], none⟩,
    ⟨(some 74), .move, [.t 73], none⟩,
    ⟨(some 75), .move, [.t 1], some (74, true)⟩,
    ⟨(some 76), .bin .and, [.t 75, .c (.int .i64 1)], some (74, true)⟩,
    ⟨(some 77), .bin .eql, [.t 76, .c (.int .i64 1)], some (74, true)⟩,
    ⟨(some 78), .pick, [.t 74, .t 77, .c (.bool false)], none⟩,
    ⟨(some 79), .load (some 1), [.t 8], none⟩,
    ⟨(some 80), .call 43, [.t 78, .t 79], none⟩,
    ⟨(some 81), .load (some 1), [.t 10], none⟩,
    ⟨(some 82), .build [.nil, .bool false, .nil] [(0, 2), (2, 1)], [.t 80, .t 81], none⟩,
    ⟨none, .store 3, [.t 6, .t 82], none⟩,
    ⟨(some 7), .move, [.c (.bool true)], none⟩] [0, 1, 3, 7, 15, 31, 63, 127, 0, 511, 0, 2047, 4095, 8191]) a71r6
def a71r4 : ACode := .seq (.seq (.region [⟨(some 64), .move, [.t 9], none⟩,
     ⟨(some 65), .un .not, [.t 64], none⟩,
     ⟨(some 66), .move, [.t 65], none⟩,
     ⟨(some 67), .move, [.t 11], some (66, false)⟩,
     ⟨(some 68), .un .not, [.t 67], some (66, false)⟩,
     ⟨(some 69), .pick, [.t 66, .c (.bool true), .t 68], none⟩])
  (.cond (.t 69)
    (.seq (.region [⟨(some 70), .build [.nil, .bool false, .nil] [], [], none⟩,
       ⟨none, .store 3, [.t 6, .t 70], none⟩,
       ⟨(some 7), .move, [.c (.bool false)], none⟩])
    (.ret))
    (.skip))) a71r5
def a71r3 : ACode := .seq (.region [⟨(some 57), .load (some 3), [.t 3], none⟩,
    ⟨(some 58), .call 37, [.t 57], none⟩,
    ⟨(some 59), .move, [.t 1], none⟩,
    ⟨(some 60), .move, [.t 2], none⟩,
    ⟨(some 61), .call 81, [.t 58, .t 59, .t 60], none⟩,
    ⟨(some 56), .move, [.t 61], none⟩,
    ⟨(some 62), .extract 0, [.t 56], none⟩,
    ⟨(some 63), .extract 1, [.t 56], none⟩,
    ⟨(some 10), .alloc [.nil], [], none⟩,
    ⟨none, .store 1, [.t 10, .t 62], none⟩,
    ⟨(some 11), .move, [.t 63], none⟩]) a71r4
def a71r2 : ACode := .seq (.region [⟨(some 48), .faddr 0, [.t 3], none⟩,
    ⟨(some 49), .faddr 0, [.t 48], none⟩,
    ⟨(some 50), .load (some 1), [.t 49], none⟩,
    ⟨(some 51), .move, [.t 1], none⟩,
    ⟨(some 52), .move, [.t 2], none⟩,
    ⟨(some 53), .call 81, [.t 50, .t 51, .t 52], none⟩,
    ⟨(some 47), .move, [.t 53], none⟩,
    ⟨(some 54), .extract 0, [.t 47], none⟩,
    ⟨(some 55), .extract 1, [.t 47], none⟩,
    ⟨(some 8), .alloc [.nil], [], none⟩,
    ⟨none, .store 1, [.t 8, .t 54], none⟩,
    ⟨(some 9), .move, [.t 55], none⟩]) a71r3
def a71r1 : ACode := .seq (.block 0 (.seq (.region [⟨(some 13), .move, [.t 1], none⟩,
      ⟨(some 14), .bin .eql, [.t 13, .c (.int .i64 0)], none⟩,
      ⟨(some 12), .move, [.t 14], none⟩])
   (.cond (.t 12)
     (.seq (.region [⟨(some 15), .call 13, [.c (.int .i64 1)], none⟩,
        ⟨none, .store 3, [.t 6, .t 15], none⟩,
        ⟨(some 7), .move, [.c (.bool true)], none⟩])
     (.ret))
     (.seq (.region [⟨(some 17), .load (some 3), [.t 3], none⟩,
        ⟨(some 18), .call 68, [.t 17], none⟩,
        ⟨(some 16), .move, [.t 18], none⟩])
     (.cond (.t 16)
       (.seq (.seq (.region [⟨(some 19), .load (some 3), [.t 3], none⟩,
           ⟨(some 20), .call 15, [.t 19], none⟩,
           ⟨(some 21), .bin .eql, [.t 20, .c (.int .i64 0)], none⟩,
           ⟨(some 22), .move, [.t 21], none⟩,
           ⟨(some 23), .move, [.t 1], some (22, true)⟩,
           ⟨(some 24), .bin .lss, [.t 23, .c (.int .i64 0)], some (22, true)⟩,
           ⟨(some 25), .pick, [.t 22, .t 24, .c (.bool false)], none⟩])
        (.cond (.t 25)
          (.seq (.region [⟨(some 26), .build [.nil, .bool false, .nil] [], [], none⟩,
             ⟨none, .store 3, [.t 6, .t 26], none⟩,
             ⟨(some 7), .move, [.c (.bool false)], none⟩])
          (.ret))
          (.skip)))
       (.seq (.seq (.region [⟨(some 27), .move, [.t 1], none⟩,
           ⟨(some 28), .bin .and, [.t 27, .c (.int .i64 1)], none⟩,
           ⟨(some 29), .bin .eql, [.t 28, .c (.int .i64 0)], none⟩])
        (.cond (.t 29)
          (.seq (.region [⟨(some 30), .load (some 3), [.t 3], none⟩,
             ⟨(some 31), .load (some 3), [.t 3], none⟩,
             ⟨(some 32), .buildSl 32 3, [.t 31], none⟩,
             ⟨(some 33), .call 14, [.t 30, .t 32], none⟩,
             ⟨none, .store 3, [.t 6, .t 33], none⟩,
             ⟨(some 7), .move, [.c (.bool true)], none⟩])
          (.ret))
          (.skip)))
       (.seq (.region [⟨(some 34), .load (some 3), [.t 3], none⟩,
          ⟨none, .store 3, [.t 6, .t 34], none⟩,
          ⟨(some 7), .move, [.c (.bool true)], none⟩])
       (.ret))))
       (.seq (.region [⟨(some 36), .move, [.t 1], none⟩,
          ⟨(some 37), .bin .lss, [.t 36, .c (.int .i64 0)], none⟩,
          ⟨(some 35), .move, [.t 37], none⟩])
       (.cond (.t 35)
         (.seq (.draw [⟨(some 39), .call 13, [.c (.int .i64 1)], none⟩,
            ⟨(some 40), .load (some 3), [.t 3], none⟩,
            ⟨(some 41), .call 46, [.t 39, .t 40], none⟩,
            ⟨(some 38), .move, [.t 41], none⟩,
            ⟨(some 42), .extract 0, [.t 38], none⟩,
            ⟨(some 43), .extract 1, [.t 38], none⟩,
            ⟨none, .store 3, [.t 3, .t 42], none⟩] [0, 0, 3, 7, 15, 15, 31])
         (.region [⟨(some 44), .move, [.t 1], none⟩,
           ⟨(some 45), .max, [.t 44, .c (.int .i64 (-9223372036854775807))], none⟩,
           ⟨(some 46), .un .neg, [.t 45], none⟩,
           ⟨(some 1), .move, [.t 46], none⟩]))
         (.skip)))))))) a71r2
def a71 : ACode := .seq (.region [⟨(some 3), .box, [.t 0], none⟩,
    ⟨(some 6), .alloc [.nil, .bool false, .nil], [], none⟩,
    ⟨(some 7), .move, [.c (.bool false)], none⟩]) a71r1
theorem t71 : told Try.prog Try.f71 = some (83, a71, [.cell 6 (some 3), .tmp 7]) := by kernel_rfl

def a72r6 : ACode :=
  .ret
def a72r5 : ACode := .seq (.draw [⟨(some 52), .load (some 1), [.t 7], none⟩,
    ⟨(some 53), .call 33, [.c (.int .u64 1)], none⟩,
    ⟨(some 54), .call 62, [.t 52, .t 53], none⟩,
    ⟨(some 55), .call 43, [.c (.bool true), .t 54], none⟩,
    ⟨(some 56), .faddr 1, [.t 3], none⟩,
    ⟨(some 57), .load none, [.t 56], none⟩,
    ⟨(some 58), .load (some 1), [.t 10], none⟩,
    ⟨(some 59), .call 43, [.t 57, .t 58], none⟩,
    ⟨none, .store 2, [.t 4, .t 55], none⟩,
    ⟨none, .store 2, [.t 5, .t 59], none⟩,
    ⟨(some 6), .move, [.c (.bool true)], none⟩] [0, 0, 3, 7, 0, 16, 0, 127, 255, 511, 1023]) a72r6
def a72r4 : ACode := .seq (.region [⟨(some 46), .faddr 0, [.t 3], none⟩,
    ⟨(some 47), .load (some 1), [.t 46], none⟩,
    ⟨(some 48), .load (some 1), [.t 8], none⟩,
    ⟨(some 49), .call 75, [.t 47, .t 48], none⟩,
    ⟨(some 45), .move, [.t 49], none⟩,
    ⟨(some 50), .extract 0, [.t 45], none⟩,
    ⟨(some 51), .extract 1, [.t 45], none⟩,
    ⟨(some 10), .alloc [.nil], [], none⟩,
    ⟨none, .store 1, [.t 10, .t 50], none⟩,
    ⟨(some 11), .move, [.t 51], none⟩]) a72r5
def a72r3 : ACode := .seq (.seq (.region [⟨(some 25), .faddr 1, [.t 2], none⟩,
     ⟨(some 26), .load none, [.t 25], none⟩,
     ⟨(some 27), .faddr 1, [.t 3], none⟩,
     ⟨(some 28), .load none, [.t 27], none⟩,
     ⟨(some 29), .binB false, [.t 26, .t 28], none⟩,
     ⟨(some 30), .move, [.t 29], none⟩,
     ⟨(some 31), .load (some 1), [.t 8], some (30, false)⟩,
     ⟨(some 32), .call 53, [.t 31], some (30, false)⟩,
     ⟨(some 33), .pick, [.t 30, .c (.bool true), .t 32], none⟩])
  (.cond (.t 33)
    (.seq (.draw [⟨(some 34), .faddr 1, [.t 2], none⟩,
       ⟨(some 35), .load none, [.t 34], none⟩,
       ⟨(some 36), .faddr 1, [.t 3], none⟩,
       ⟨(some 37), .load none, [.t 36], none⟩,
       ⟨(some 38), .binB true, [.t 35, .t 37], none⟩,
       ⟨(some 39), .load (some 1), [.t 7], none⟩,
       ⟨(some 40), .call 43, [.t 38, .t 39], none⟩,
       ⟨(some 41), .faddr 1, [.t 3], none⟩,
       ⟨(some 42), .load none, [.t 41], none⟩,
       ⟨(some 43), .load (some 1), [.t 8], none⟩,
       ⟨(some 44), .call 43, [.t 42, .t 43], none⟩,
       ⟨none, .store 2, [.t 4, .t 40], none⟩,
       ⟨none, .store 2, [.t 5, .t 44], none⟩,
       ⟨(some 6), .move, [.c (.bool true)], none⟩] [0, 1, 0, 4, 15, 0, 63, 0, 128, 0, 1023, 2047, 4095, 8191])
    (.ret))
    (.skip))) a72r4
def a72r2 : ACode := .seq (.seq (.region [⟨(some 21), .move, [.t 9], none⟩,
     ⟨(some 22), .un .not, [.t 21], none⟩])
  (.cond (.t 22)
    (.seq (.region [⟨(some 23), .build [.nil, .bool false] [], [], none⟩,
       ⟨(some 24), .build [.nil, .bool false] [], [], none⟩,
       ⟨none, .store 2, [.t 4, .t 23], none⟩,
       ⟨none, .store 2, [.t 5, .t 24], none⟩,
       ⟨(some 6), .move, [.c (.bool false)], none⟩])
    (.ret))
    (.skip))) a72r3
def a72r1 : ACode := .seq (.region [⟨(some 13), .faddr 0, [.t 2], none⟩,
    ⟨(some 14), .load (some 1), [.t 13], none⟩,
    ⟨(some 15), .faddr 0, [.t 3], none⟩,
    ⟨(some 16), .load (some 1), [.t 15], none⟩,
    ⟨(some 17), .call 56, [.t 14, .t 16], none⟩,
    ⟨(some 12), .move, [.t 17], none⟩,
    ⟨(some 18), .extract 0, [.t 12], none⟩,
    ⟨(some 19), .extract 1, [.t 12], none⟩,
    ⟨(some 20), .extract 2, [.t 12], none⟩,
    ⟨(some 7), .alloc [.nil], [], none⟩,
    ⟨(some 8), .alloc [.nil], [], none⟩,
    ⟨none, .store 1, [.t 7, .t 18], none⟩,
    ⟨none, .store 1, [.t 8, .t 19], none⟩,
    ⟨(some 9), .move, [.t 20], none⟩]) a72r2
def a72 : ACode := .seq (.region [⟨(some 2), .box, [.t 0], none⟩,
    ⟨(some 3), .box, [.t 1], none⟩,
    ⟨(some 4), .alloc [.nil, .bool false], [], none⟩,
    ⟨(some 5), .alloc [.nil, .bool false], [], none⟩,
    ⟨(some 6), .move, [.c (.bool false)], none⟩]) a72r1
theorem t72 : told Try.prog Try.f72 = some (60, a72, [.cell 4 (some 2), .cell 5 (some 2), .tmp 6]) := by kernel_rfl

def a73r3 : ACode :=
  .ret
def a73r2 : ACode := .seq (.region [⟨(some 2), .move, [.c (.int .u64 0)], none⟩,
    ⟨(some 3), .move, [.c (.bool false)], none⟩]) a73r3
def a73r1 : ACode := .seq (.seq (.region [⟨(some 4), .faddr 0, [.t 1], none⟩,
     ⟨(some 5), .load none, [.t 4], none⟩,
     ⟨(some 6), .lenL, [.t 5], none⟩])
  (.block 0 (.seq (.region [⟨(some 8), .bin .eql, [.t 6, .c (.int .i64 0)], none⟩,
      ⟨(some 7), .move, [.t 8], none⟩])
   (.cond (.t 7)
     (.seq (.region [⟨(some 2), .move, [.c (.int .u64 0)], none⟩,
        ⟨(some 3), .move, [.c (.bool true)], none⟩])
     (.ret))
     (.seq (.region [⟨(some 10), .bin .eql, [.t 6, .c (.int .i64 1)], none⟩,
        ⟨(some 9), .move, [.t 10], none⟩])
     (.cond (.t 9)
       (.seq (.region [⟨(some 11), .faddr 0, [.t 1], none⟩,
          ⟨(some 12), .load none, [.t 11], none⟩,
          ⟨(some 13), .iaddr 1, [.t 12, .c (.int .i64 0)], none⟩,
          ⟨(some 14), .load none, [.t 13], none⟩,
          ⟨(some 15), .toInt .u64, [.t 14], none⟩,
          ⟨(some 2), .move, [.t 15], none⟩,
          ⟨(some 3), .move, [.c (.bool true)], none⟩])
       (.ret))
       (.seq (.region [⟨(some 17), .bin .eql, [.t 6, .c (.int .i64 2)], none⟩,
          ⟨(some 16), .move, [.t 17], none⟩])
       (.cond (.t 16)
         (.seq (.draw [⟨(some 18), .faddr 0, [.t 1], none⟩,
            ⟨(some 19), .load none, [.t 18], none⟩,
            ⟨(some 20), .iaddr 1, [.t 19, .c (.int .i64 0)], none⟩,
            ⟨(some 21), .load none, [.t 20], none⟩,
            ⟨(some 22), .toInt .u64, [.t 21], none⟩,
            ⟨(some 23), .faddr 0, [.t 1], none⟩,
            ⟨(some 24), .load none, [.t 23], none⟩,
            ⟨(some 25), .iaddr 1, [.t 24, .c (.int .i64 1)], none⟩,
            ⟨(some 26), .load none, [.t 25], none⟩,
            ⟨(some 27), .toInt .u64, [.t 26], none⟩,
            ⟨(some 28), .bin .shl, [.t 27, .c (.int .u64 32)], none⟩,
            ⟨(some 29), .bin .or, [.t 22, .t 28], none⟩,
            ⟨(some 2), .move, [.t 29], none⟩,
            ⟨(some 3), .move, [.c (.bool true)], none⟩] [0, 1, 3, 7, 15, 0, 32, 96, 224, 480, 992, 2047, 4095, 8191])
         (.ret))
         (.skip))))))))) a73r2
def a73 : ACode := .seq (.region [⟨(some 1), .box, [.t 0], none⟩,
    ⟨(some 2), .move, [.c (.int .u64 0)], none⟩,
    ⟨(some 3), .move, [.c (.bool false)], none⟩]) a73r1
theorem t73 : told Try.prog Try.f73 = some (30, a73, [.tmp 2, .tmp 3]) := by kernel_rfl

def a74r10 : ACode :=
  .ret
def a74r9 : ACode := .seq (.region [⟨(some 146), .move, [.t 11], none⟩,
    ⟨(some 147), .call 58, [.t 146], none⟩,
    ⟨(some 148), .move, [.t 8], none⟩,
    ⟨(some 149), .call 58, [.t 148], none⟩,
    ⟨(some 150), .move, [.t 6], none⟩,
    ⟨(some 151), .call 86, [.t 149, .t 150], none⟩,
    ⟨none, .store 1, [.t 4, .t 147], none⟩,
    ⟨none, .store 1, [.t 5, .t 151], none⟩]) a74r10
def a74r8 : ACode := .seq (.seq (.region [⟨(some 66), .move, [.t 10], none⟩,
     ⟨(some 14), .move, [.t 66], none⟩])
  (.block 0 (.loop (.seq (.seq (.region [⟨(some 67), .move, [.t 14], none⟩,
        ⟨(some 68), .bin .geq, [.t 67, .c (.int .i64 0)], none⟩])
     (.cond (.t 68)
       (.skip)
       (.exit 0)))
    (.seq (.block 1 (.seq (.draw [⟨(some 71), .move, [.t 8], none⟩,
         ⟨(some 72), .move, [.t 14], none⟩,
         ⟨(some 73), .move, [.t 9], none⟩,
         ⟨(some 74), .bin .add, [.t 72, .t 73], none⟩,
         ⟨(some 75), .iaddr 1, [.t 71, .t 74], none⟩,
         ⟨(some 76), .load none, [.t 75], none⟩,
         ⟨(some 77), .toInt .u64, [.t 76], none⟩,
         ⟨(some 78), .bin .shl, [.t 77, .c (.int .u64 32)], none⟩,
         ⟨(some 79), .move, [.t 8], none⟩,
         ⟨(some 80), .move, [.t 14], none⟩,
         ⟨(some 81), .move, [.t 9], none⟩,
         ⟨(some 82), .bin .add, [.t 80, .t 81], none⟩,
         ⟨(some 83), .bin .sub, [.t 82, .c (.int .i64 1)], none⟩,
         ⟨(some 84), .iaddr 1, [.t 79, .t 83], none⟩,
         ⟨(some 85), .load none, [.t 84], none⟩,
         ⟨(some 86), .toInt .u64, [.t 85], none⟩,
         ⟨(some 87), .bin .or, [.t 78, .t 86], none⟩,
         ⟨(some 15), .move, [.t 87], none⟩] [0, 0, 0, 6, 15, 31, 63, 127, 0, 0, 0, 1536, 3584, 7936, 16128, 32512, 65535, 131071])
      (.seq (.draw [⟨(some 88), .move, [.t 15], none⟩,
         ⟨(some 89), .move, [.t 12], none⟩,
         ⟨(some 90), .bin .quo, [.t 88, .t 89], none⟩,
         ⟨(some 91), .move, [.t 15], none⟩,
         ⟨(some 92), .move, [.t 12], none⟩,
         ⟨(some 93), .bin .rem, [.t 91, .t 92], none⟩,
         ⟨(some 16), .move, [.t 90], none⟩,
         ⟨(some 17), .move, [.t 93], none⟩] [0, 0, 3, 0, 0, 24, 7, 127])
      (.seq (.block 2 (.loop (.seq (.seq (.region [⟨(some 94), .move, [.t 16], none⟩,
             ⟨(some 95), .bin .geq, [.t 94, .c (.int .u64 4294967296)], none⟩,
             ⟨(some 96), .move, [.t 95], none⟩,
             ⟨(some 97), .move, [.t 16], some (96, false)⟩,
             ⟨(some 98), .move, [.t 13], some (96, false)⟩,
             ⟨(some 99), .bin .mul, [.t 97, .t 98], some (96, false)⟩,
             ⟨(some 100), .move, [.t 17], some (96, false)⟩,
             ⟨(some 101), .bin .shl, [.t 100, .c (.int .u64 32)], some (96, false)⟩,
             ⟨(some 102), .move, [.t 8], some (96, false)⟩,
             ⟨(some 103), .move, [.t 14], some (96, false)⟩,
             ⟨(some 104), .move, [.t 9], some (96, false)⟩,
             ⟨(some 105), .bin .add, [.t 103, .t 104], some (96, false)⟩,
             ⟨(some 106), .bin .sub, [.t 105, .c (.int .i64 2)], some (96, false)⟩,
             ⟨(some 107), .iaddr 1, [.t 102, .t 106], some (96, false)⟩,
             ⟨(some 108), .load none, [.t 107], some (96, false)⟩,
             ⟨(some 109), .toInt .u64, [.t 108], some (96, false)⟩,
             ⟨(some 110), .bin .or, [.t 101, .t 109], some (96, false)⟩,
             ⟨(some 111), .bin .gtr, [.t 99, .t 110], some (96, false)⟩,
             ⟨(some 112), .pick, [.t 96, .c (.bool true), .t 111], none⟩])
          (.cond (.t 112)
            (.skip)
            (.exit 2)))
         (.block 3 (.seq (.region [⟨(some 113), .move, [.t 16], none⟩,
             ⟨(some 114), .bin .sub, [.t 113, .c (.int .u64 1)], none⟩,
             ⟨(some 16), .move, [.t 114], none⟩])
          (.seq (.region [⟨(some 115), .move, [.t 17], none⟩,
             ⟨(some 116), .move, [.t 12], none⟩,
             ⟨(some 117), .bin .add, [.t 115, .t 116], none⟩,
             ⟨(some 17), .move, [.t 117], none⟩])
          (.seq (.region [⟨(some 118), .move, [.t 17], none⟩,
             ⟨(some 119), .bin .geq, [.t 118, .c (.int .u64 4294967296)], none⟩])
          (.cond (.t 119)
            (.exit 2)
            (.skip)))))))))
      (.seq (.seq (.region [⟨(some 120), .move, [.t 8], none⟩,
          ⟨(some 121), .move, [.t 14], none⟩,
          ⟨(some 122), .move, [.t 14], none⟩,
          ⟨(some 123), .move, [.t 9], none⟩,
          ⟨(some 124), .bin .add, [.t 122, .t 123], none⟩,
          ⟨(some 125), .bin .add, [.t 124, .c (.int .i64 1)], none⟩,
          ⟨(some 126), .sliceL 1 true true, [.t 120, .t 121, .t 125], none⟩,
          ⟨(some 127), .move, [.t 7], none⟩,
          ⟨(some 128), .move, [.t 16], none⟩,
          ⟨(some 129), .call 84, [.t 126, .t 127, .t 128], none⟩])
       (.cond (.t 129)
         (.seq (.region [⟨(some 130), .move, [.t 16], none⟩,
            ⟨(some 131), .bin .sub, [.t 130, .c (.int .u64 1)], none⟩,
            ⟨(some 16), .move, [.t 131], none⟩])
         (.region [⟨(some 132), .move, [.t 8], none⟩,
           ⟨(some 133), .move, [.t 14], none⟩,
           ⟨(some 134), .move, [.t 14], none⟩,
           ⟨(some 135), .move, [.t 9], none⟩,
           ⟨(some 136), .bin .add, [.t 134, .t 135], none⟩,
           ⟨(some 137), .bin .add, [.t 136, .c (.int .i64 1)], none⟩,
           ⟨(some 138), .sliceL 1 true true, [.t 132, .t 133, .t 137], none⟩,
           ⟨(some 139), .move, [.t 7], none⟩,
           ⟨(some 140), .call 85, [.t 138, .t 139], none⟩]))
         (.skip)))
      (.region [⟨(some 141), .move, [.t 11], none⟩,
        ⟨(some 142), .move, [.t 14], none⟩,
        ⟨(some 143), .move, [.t 16], none⟩,
        ⟨(some 144), .toInt .u32, [.t 143], none⟩,
        ⟨(some 145), .iaddr 1, [.t 141, .t 142], none⟩,
        ⟨none, .store 1, [.t 145, .t 144], none⟩]))))))
    (.region [⟨(some 69), .move, [.t 14], none⟩,
      ⟨(some 70), .bin .sub, [.t 69, .c (.int .i64 1)], none⟩,
      ⟨(some 14), .move, [.t 70], none⟩])))))) a74r9
def a74r7 : ACode := .seq (.draw [⟨(some 54), .move, [.t 7], none⟩,
    ⟨(some 55), .move, [.t 9], none⟩,
    ⟨(some 56), .bin .sub, [.t 55, .c (.int .i64 1)], none⟩,
    ⟨(some 57), .iaddr 1, [.t 54, .t 56], none⟩,
    ⟨(some 58), .load none, [.t 57], none⟩,
    ⟨(some 59), .toInt .u64, [.t 58], none⟩,
    ⟨(some 60), .move, [.t 7], none⟩,
    ⟨(some 61), .move, [.t 9], none⟩,
    ⟨(some 62), .bin .sub, [.t 61, .c (.int .i64 2)], none⟩,
    ⟨(some 63), .iaddr 1, [.t 60, .t 62], none⟩,
    ⟨(some 64), .load none, [.t 63], none⟩,
    ⟨(some 65), .toInt .u64, [.t 64], none⟩,
    ⟨(some 12), .move, [.t 59], none⟩,
    ⟨(some 13), .move, [.t 65], none⟩] [0, 0, 2, 7, 15, 31, 0, 0, 128, 448, 960, 1984, 63, 8191]) a74r8
def a74r6 : ACode := .seq (.region [⟨(some 51), .move, [.t 10], none⟩,
    ⟨(some 52), .bin .add, [.t 51, .c (.int .i64 1)], none⟩,
    ⟨(some 53), .mkSl 83 1 4 [.int .u32 0], [.t 52, .t 52], none⟩,
    ⟨(some 11), .move, [.t 53], none⟩]) a74r7
def a74r5 : ACode := .seq (.draw [⟨(some 42), .move, [.t 7], none⟩,
    ⟨(some 43), .lenL, [.t 42], none⟩,
    ⟨(some 44), .faddr 0, [.t 2], none⟩,
    ⟨(some 45), .load none, [.t 44], none⟩,
    ⟨(some 46), .lenL, [.t 45], none⟩,
    ⟨(some 47), .faddr 0, [.t 3], none⟩,
    ⟨(some 48), .load none, [.t 47], none⟩,
    ⟨(some 49), .lenL, [.t 48], none⟩,
    ⟨(some 50), .bin .sub, [.t 46, .t 49], none⟩,
    ⟨(some 9), .move, [.t 43], none⟩,
    ⟨(some 10), .move, [.t 50], none⟩] [0, 1, 0, 4, 12, 0, 32, 96, 252, 3, 1023]) a74r6
def a74r4 : ACode := .seq (.region [⟨(some 36), .move, [.t 8], none⟩,
    ⟨(some 37), .load (some 1), [.t 2], none⟩,
    ⟨(some 38), .move, [.t 6], none⟩,
    ⟨(some 39), .call 83, [.t 37, .t 38], none⟩,
    ⟨(some 40), .field 0 none, [.t 39], none⟩,
    ⟨(some 41), .copy 1, [.t 36, .t 40], none⟩]) a74r5
def a74r3 : ACode := .seq (.region [⟨(some 31), .faddr 0, [.t 2], none⟩,
    ⟨(some 32), .load none, [.t 31], none⟩,
    ⟨(some 33), .lenL, [.t 32], none⟩,
    ⟨(some 34), .bin .add, [.t 33, .c (.int .i64 1)], none⟩,
    ⟨(some 35), .mkSl 83 1 4 [.int .u32 0], [.t 34, .t 34], none⟩,
    ⟨(some 8), .move, [.t 35], none⟩]) a74r4
def a74r2 : ACode := .seq (.region [⟨(some 27), .load (some 1), [.t 3], none⟩,
    ⟨(some 28), .move, [.t 6], none⟩,
    ⟨(some 29), .call 83, [.t 27, .t 28], none⟩,
    ⟨(some 30), .field 0 none, [.t 29], none⟩,
    ⟨(some 7), .move, [.t 30], none⟩]) a74r3
def a74r1 : ACode := .seq (.region [⟨(some 18), .faddr 0, [.t 3], none⟩,
    ⟨(some 19), .load none, [.t 18], none⟩,
    ⟨(some 20), .faddr 0, [.t 3], none⟩,
    ⟨(some 21), .load none, [.t 20], none⟩,
    ⟨(some 22), .lenL, [.t 21], none⟩,
    ⟨(some 23), .bin .sub, [.t 22, .c (.int .i64 1)], none⟩,
    ⟨(some 24), .iaddr 1, [.t 19, .t 23], none⟩,
    ⟨(some 25), .load none, [.t 24], none⟩,
    ⟨(some 26), .call 82, [.t 25], none⟩,
    ⟨(some 6), .move, [.t 26], none⟩]) a74r2
def a74 : ACode := .seq (.region [⟨(some 2), .box, [.t 0], none⟩,
    ⟨(some 3), .box, [.t 1], none⟩,
    ⟨(some 4), .alloc [.nil], [], none⟩,
    ⟨(some 5), .alloc [.nil], [], none⟩]) a74r1
theorem t74 : told Try.prog Try.f74 = some (152, a74, [.cell 4 (some 1), .cell 5 (some 1)]) := by kernel_rfl

def a75r6 : ACode :=
  .ret
def a75r5 : ACode := .seq (.region [⟨(some 50), .move, [.t 6], none⟩,
    ⟨(some 51), .call 58, [.t 50], none⟩,
    ⟨none, .store 1, [.t 4, .t 51], none⟩,
    ⟨(some 5), .move, [.c (.bool true)], none⟩]) a75r6
def a75r4 : ACode := .seq (.seq (.region [⟨(some 19), .faddr 0, [.t 2], none⟩,
     ⟨(some 20), .load none, [.t 19], none⟩,
     ⟨(some 21), .lenL, [.t 20], none⟩,
     ⟨(some 22), .move, [.c (.int .i64 0)], none⟩])
  (.block 0 (.loop (.seq (.region [⟨(some 23), .bin .lss, [.t 22, .t 21], none⟩])
    (.seq (.cond (.t 23)
       (.skip)
       (.exit 0))
    (.seq (.block 1 (.seq (.region [⟨(some 24), .move, [.t 22], none⟩,
         ⟨(some 8), .move, [.t 24], none⟩])
      (.seq (.region [⟨(some 9), .move, [.c (.int .u32 0)], none⟩])
      (.seq (.seq (.region [⟨(some 25), .move, [.t 8], none⟩,
          ⟨(some 26), .faddr 0, [.t 3], none⟩,
          ⟨(some 27), .load none, [.t 26], none⟩,
          ⟨(some 28), .lenL, [.t 27], none⟩,
          ⟨(some 29), .bin .lss, [.t 25, .t 28], none⟩])
       (.cond (.t 29)
         (.region [⟨(some 30), .faddr 0, [.t 3], none⟩,
           ⟨(some 31), .load none, [.t 30], none⟩,
           ⟨(some 32), .move, [.t 8], none⟩,
           ⟨(some 33), .iaddr 1, [.t 31, .t 32], none⟩,
           ⟨(some 34), .load none, [.t 33], none⟩,
           ⟨(some 9), .move, [.t 34], none⟩])
         (.skip)))
      (.region [⟨(some 36), .move, [.t 6], none⟩,
        ⟨(some 37), .move, [.t 8], none⟩,
        ⟨(some 38), .faddr 0, [.t 2], none⟩,
        ⟨(some 39), .load none, [.t 38], none⟩,
        ⟨(some 40), .move, [.t 8], none⟩,
        ⟨(some 41), .iaddr 1, [.t 39, .t 40], none⟩,
        ⟨(some 42), .load none, [.t 41], none⟩,
        ⟨(some 43), .move, [.t 9], none⟩,
        ⟨(some 44), .move, [.t 7], none⟩,
        ⟨(some 45), .call 87, [.t 42, .t 43, .t 44], none⟩,
        ⟨(some 35), .move, [.t 45], none⟩,
        ⟨(some 46), .extract 0, [.t 35], none⟩,
        ⟨(some 47), .extract 1, [.t 35], none⟩,
        ⟨(some 48), .iaddr 1, [.t 36, .t 37], none⟩,
        ⟨none, .store 1, [.t 48, .t 46], none⟩,
        ⟨(some 7), .move, [.t 47], none⟩])))))
    (.region [⟨(some 49), .bin .add, [.t 22, .c (.int .i64 1)], none⟩,
      ⟨(some 22), .move, [.t 49], none⟩]))))))) a75r5
def a75r3 : ACode := .seq (.region [⟨(some 7), .move, [.c (.int .u32 0)], none⟩]) a75r4
def a75r2 : ACode := .seq (.region [⟨(some 15), .faddr 0, [.t 2], none⟩,
    ⟨(some 16), .load none, [.t 15], none⟩,
    ⟨(some 17), .lenL, [.t 16], none⟩,
    ⟨(some 18), .mkSl 83 1 4 [.int .u32 0], [.t 17, .t 17], none⟩,
    ⟨(some 6), .move, [.t 18], none⟩]) a75r3
def a75r1 : ACode := .seq (.seq (.region [⟨(some 10), .load (some 1), [.t 2], none⟩,
     ⟨(some 11), .load (some 1), [.t 3], none⟩,
     ⟨(some 12), .call 52, [.t 10, .t 11], none⟩,
     ⟨(some 13), .bin .lss, [.t 12, .c (.int .i64 0)], none⟩])
  (.cond (.t 13)
    (.seq (.region [⟨(some 14), .build [.nil] [], [], none⟩,
       ⟨none, .store 1, [.t 4, .t 14], none⟩,
       ⟨(some 5), .move, [.c (.bool false)], none⟩])
    (.ret))
    (.skip))) a75r2
def a75 : ACode := .seq (.region [⟨(some 2), .box, [.t 0], none⟩,
    ⟨(some 3), .box, [.t 1], none⟩,
    ⟨(some 4), .alloc [.nil], [], none⟩,
    ⟨(some 5), .move, [.c (.bool false)], none⟩]) a75r1
theorem t75 : told Try.prog Try.f75 = some (52, a75, [.cell 4 (some 1), .tmp 5]) := by kernel_rfl

def a76r5 : ACode :=
  .ret
def a76r4 : ACode := .seq (.region [⟨(some 28), .move, [.t 3], none⟩,
    ⟨(some 29), .b2s, [.t 28], none⟩,
    ⟨(some 30), .call 40, [.t 29], none⟩,
    ⟨(some 2), .move, [.t 30], none⟩]) a76r5
def a76r3 : ACode := .seq (.seq (.region [⟨(some 25), .move, [.t 3], none⟩,
     ⟨(some 26), .lenL, [.t 25], none⟩,
     ⟨(some 27), .bin .eql, [.t 26, .c (.int .i64 0)], none⟩])
  (.cond (.t 27)
    (.seq (.region [⟨(some 2), .move, [.c (.str ⟨#[48]⟩)], none⟩])
    (.ret))
    (.skip))) a76r4
def a76r2 : ACode := .seq (.seq (.region [⟨(some 9), .move, [.t 0], none⟩,
     ⟨(some 10), .lenL, [.t 9], none⟩,
     ⟨(some 11), .bin .sub, [.t 10, .c (.int .i64 1)], none⟩,
     ⟨(some 4), .move, [.t 11], none⟩])
  (.block 0 (.loop (.seq (.seq (.region [⟨(some 12), .move, [.t 4], none⟩,
        ⟨(some 13), .bin .geq, [.t 12, .c (.int .i64 0)], none⟩])
     (.cond (.t 13)
       (.skip)
       (.exit 0)))
    (.seq (.block 1 (.region [⟨(some 16), .move, [.t 3], none⟩,
        ⟨(some 17), .move, [.t 0], none⟩,
        ⟨(some 18), .move, [.t 4], none⟩,
        ⟨(some 19), .iaddr 1, [.t 17, .t 18], none⟩,
        ⟨(some 20), .load none, [.t 19], none⟩,
        ⟨(some 21), .bin .add, [.c (.int .i64 48), .t 20], none⟩,
        ⟨(some 22), .toInt .u8, [.t 21], none⟩,
        ⟨(some 23), .buildSl 5 1, [.t 22], none⟩,
        ⟨(some 24), .app 5 1 1, [.t 16, .t 23], none⟩,
        ⟨(some 3), .move, [.t 24], none⟩]))
    (.region [⟨(some 14), .move, [.t 4], none⟩,
      ⟨(some 15), .bin .sub, [.t 14, .c (.int .i64 1)], none⟩,
      ⟨(some 4), .move, [.t 15], none⟩])))))) a76r3
def a76r1 : ACode := .seq (.region [⟨(some 5), .move, [.t 0], none⟩,
    ⟨(some 6), .lenL, [.t 5], none⟩,
    ⟨(some 7), .bin .add, [.t 6, .c (.int .i64 1)], none⟩,
    ⟨(some 8), .mkSl 5 1 1 [.int .u8 0], [.c (.int .i64 0), .t 7], none⟩,
    ⟨(some 3), .move, [.t 8], none⟩]) a76r2
def a76 : ACode := .seq (.region [⟨(some 2), .move, [.c (.str ⟨#[]⟩)], none⟩]) a76r1
theorem t76 : told Try.prog Try.f76 = some (31, a76, [.tmp 2]) := by kernel_rfl

def a77r5 : ACode :=
  .ret
def a77r4 : ACode := .seq (.region [⟨(some 4), .move, [.c (.int .i64 1)], none⟩]) a77r5
def a77r3 : ACode := .seq (.seq (.region [⟨(some 18), .move, [.t 0], none⟩,
     ⟨(some 19), .move, [.t 1], none⟩,
     ⟨(some 20), .bin .lss, [.t 18, .t 19], none⟩])
  (.cond (.t 20)
    (.seq (.region [⟨(some 4), .move, [.c (.int .i64 (-1))], none⟩])
    (.ret))
    (.skip))) a77r4
def a77r2 : ACode := .seq (.seq (.region [⟨(some 15), .move, [.t 0], none⟩,
     ⟨(some 16), .move, [.t 1], none⟩,
     ⟨(some 17), .bin .eql, [.t 15, .t 16], none⟩])
  (.cond (.t 17)
    (.seq (.region [⟨(some 4), .move, [.c (.int .i64 0)], none⟩])
    (.ret))
    (.skip))) a77r3
def a77r1 : ACode := .seq (.seq (.region [⟨(some 5), .move, [.t 0], none⟩,
     ⟨(some 6), .lenS, [.t 5], none⟩,
     ⟨(some 7), .move, [.t 1], none⟩,
     ⟨(some 8), .lenS, [.t 7], none⟩,
     ⟨(some 9), .bin .neq, [.t 6, .t 8], none⟩])
  (.cond (.t 9)
    (.seq (.seq (.region [⟨(some 10), .move, [.t 0], none⟩,
        ⟨(some 11), .lenS, [.t 10], none⟩,
        ⟨(some 12), .move, [.t 1], none⟩,
        ⟨(some 13), .lenS, [.t 12], none⟩,
        ⟨(some 14), .bin .lss, [.t 11, .t 13], none⟩])
     (.cond (.t 14)
       (.seq (.region [⟨(some 4), .move, [.c (.int .i64 (-1))], none⟩])
       (.ret))
       (.skip)))
    (.seq (.region [⟨(some 4), .move, [.c (.int .i64 1)], none⟩])
    (.ret)))
    (.skip))) a77r2
def a77 : ACode := .seq (.region [⟨(some 4), .move, [.c (.int .i64 0)], none⟩]) a77r1
theorem t77 : told Try.prog Try.f77 = some (21, a77, [.tmp 4]) := by kernel_rfl

def a78r5 : ACode :=
  .ret
def a78r4 : ACode := .seq (.region [⟨(some 32), .move, [.t 5], none⟩,
    ⟨(some 33), .call 76, [.t 32], none⟩,
    ⟨(some 4), .move, [.t 33], none⟩]) a78r5
def a78r3 : ACode := .seq (.seq (.region [⟨(some 7), .move, [.c (.int .i64 0)], none⟩])
  (.block 0 (.loop (.seq (.seq (.region [⟨(some 9), .move, [.t 7], none⟩,
        ⟨(some 10), .move, [.t 0], none⟩,
        ⟨(some 11), .lenS, [.t 10], none⟩,
        ⟨(some 12), .bin .lss, [.t 9, .t 11], none⟩])
     (.cond (.t 12)
       (.skip)
       (.exit 0)))
    (.seq (.block 1 (.seq (.region [⟨(some 15), .move, [.t 0], none⟩,
         ⟨(some 16), .move, [.t 7], none⟩,
         ⟨(some 17), .call 88, [.t 15, .t 16], none⟩,
         ⟨(some 18), .move, [.t 1], none⟩,
         ⟨(some 19), .move, [.t 7], none⟩,
         ⟨(some 20), .call 88, [.t 18, .t 19], none⟩,
         ⟨(some 21), .bin .sub, [.t 17, .t 20], none⟩,
         ⟨(some 22), .move, [.t 6], none⟩,
         ⟨(some 23), .bin .sub, [.t 21, .t 22], none⟩,
         ⟨(some 8), .move, [.t 23], none⟩])
      (.seq (.region [⟨(some 6), .move, [.c (.int .i64 0)], none⟩])
      (.seq (.seq (.region [⟨(some 24), .move, [.t 8], none⟩,
          ⟨(some 25), .bin .lss, [.t 24, .c (.int .i64 0)], none⟩])
       (.cond (.t 25)
         (.seq (.region [⟨(some 26), .move, [.t 8], none⟩,
            ⟨(some 27), .bin .add, [.t 26, .c (.int .i64 10)], none⟩,
            ⟨(some 8), .move, [.t 27], none⟩])
         (.region [⟨(some 6), .move, [.c (.int .i64 1)], none⟩]))
         (.skip)))
      (.region [⟨(some 28), .move, [.t 5], none⟩,
        ⟨(some 29), .move, [.t 8], none⟩,
        ⟨(some 30), .buildSl 3 1, [.t 29], none⟩,
        ⟨(some 31), .app 3 1 8, [.t 28, .t 30], none⟩,
        ⟨(some 5), .move, [.t 31], none⟩])))))
    (.region [⟨(some 13), .move, [.t 7], none⟩,
      ⟨(some 14), .bin .add, [.t 13, .c (.int .i64 1)], none⟩,
      ⟨(some 7), .move, [.t 14], none⟩])))))) a78r4
def a78r2 : ACode := .seq (.region [⟨(some 6), .move, [.c (.int .i64 0)], none⟩]) a78r3
def a78r1 : ACode := .seq (.region [⟨(some 5), .move, [.c (.nil)], none⟩]) a78r2
def a78 : ACode := .seq (.region [⟨(some 4), .move, [.c (.str ⟨#[]⟩)], none⟩]) a78r1
theorem t78 : told Try.prog Try.f78 = some (34, a78, [.tmp 4]) := by kernel_rfl

def a79r4 : ACode :=
  .ret
def a79r3 : ACode := .seq (.region [⟨(some 19), .move, [.t 8], none⟩,
    ⟨(some 20), .bin .shr, [.t 19, .c (.int .u64 32)], none⟩,
    ⟨(some 21), .toInt .u32, [.t 20], none⟩,
    ⟨(some 7), .move, [.t 21], none⟩]) a79r4
def a79r2 : ACode := .seq (.region [⟨(some 17), .move, [.t 8], none⟩,
    ⟨(some 18), .toInt .u32, [.t 17], none⟩,
    ⟨(some 6), .move, [.t 18], none⟩]) a79r3
def a79r1 : ACode := .seq (.region [⟨(some 9), .move, [.t 0], none⟩,
    ⟨(some 10), .toInt .u64, [.t 9], none⟩,
    ⟨(some 11), .move, [.t 1], none⟩,
    ⟨(some 12), .toInt .u64, [.t 11], none⟩,
    ⟨(some 13), .bin .add, [.t 10, .t 12], none⟩,
    ⟨(some 14), .move, [.t 2], none⟩,
    ⟨(some 15), .toInt .u64, [.t 14], none⟩,
    ⟨(some 16), .bin .add, [.t 13, .t 15], none⟩,
    ⟨(some 8), .move, [.t 16], none⟩]) a79r2
def a79 : ACode := .seq (.region [⟨(some 6), .move, [.c (.int .u32 0)], none⟩,
    ⟨(some 7), .move, [.c (.int .u32 0)], none⟩]) a79r1
theorem t79 : told Try.prog Try.f79 = some (22, a79, [.tmp 6, .tmp 7]) := by kernel_rfl

def a80r2 : ACode :=
  .ret
def a80r1 : ACode := .seq (.region [⟨(some 3), .faddr 0, [.t 1], none⟩,
    ⟨(some 4), .load none, [.t 3], none⟩,
    ⟨(some 5), .lenL, [.t 4], none⟩,
    ⟨(some 6), .bin .eql, [.t 5, .c (.int .i64 1)], none⟩,
    ⟨(some 7), .move, [.t 6], none⟩,
    ⟨(some 8), .faddr 0, [.t 1], some (7, true)⟩,
    ⟨(some 9), .load none, [.t 8], some (7, true)⟩,
    ⟨(some 10), .iaddr 1, [.t 9, .c (.int .i64 0)], some (7, true)⟩,
    ⟨(some 11), .load none, [.t 10], some (7, true)⟩,
    ⟨(some 12), .bin .eql, [.t 11, .c (.int .u32 1)], some (7, true)⟩,
    ⟨(some 13), .pick, [.t 7, .t 12, .c (.bool false)], none⟩,
    ⟨(some 2), .move, [.t 13], none⟩]) a80r2
def a80 : ACode := .seq (.region [⟨(some 1), .box, [.t 0], none⟩,
    ⟨(some 2), .move, [.c (.bool false)], none⟩]) a80r1
theorem t80 : told Try.prog Try.f80 = some (14, a80, [.tmp 2]) := by kernel_rfl

def a81r6 : ACode :=
  .ret
def a81r5 : ACode := .seq (.region [⟨(some 32), .load (some 1), [.t 8], none⟩,
    ⟨none, .store 1, [.t 6, .t 32], none⟩,
    ⟨(some 7), .move, [.c (.bool true)], none⟩]) a81r6
def a81r4 : ACode := .seq (.seq (.region [⟨(some 20), .move, [.t 1], none⟩,
     ⟨(some 21), .move, [.c (.int .i64 0)], none⟩])
  (.block 0 (.loop (.seq (.region [⟨(some 22), .bin .lss, [.t 21, .t 20], none⟩])
    (.seq (.cond (.t 22)
       (.skip)
       (.exit 0))
    (.seq (.block 1 (.seq (.region [⟨(some 23), .load (some 1), [.t 8], none⟩,
         ⟨(some 24), .load (some 1), [.t 3], none⟩,
         ⟨(some 25), .call 51, [.t 23, .t 24], none⟩,
         ⟨none, .store 1, [.t 8, .t 25], none⟩])
      (.seq (.region [⟨(some 26), .load (some 1), [.t 8], none⟩,
         ⟨(some 27), .call 50, [.t 26], none⟩,
         ⟨(some 28), .move, [.t 2], none⟩,
         ⟨(some 29), .bin .gtr, [.t 27, .t 28], none⟩])
      (.cond (.t 29)
        (.seq (.region [⟨(some 30), .build [.nil] [], [], none⟩,
           ⟨none, .store 1, [.t 6, .t 30], none⟩,
           ⟨(some 7), .move, [.c (.bool false)], none⟩])
        (.ret))
        (.skip)))))
    (.region [⟨(some 31), .bin .add, [.t 21, .c (.int .i64 1)], none⟩,
      ⟨(some 21), .move, [.t 31], none⟩]))))))) a81r5
def a81r3 : ACode := .seq (.seq (.region [⟨(some 17), .load (some 1), [.t 3], none⟩,
     ⟨(some 18), .call 53, [.t 17], none⟩])
  (.cond (.t 18)
    (.seq (.region [⟨(some 19), .load (some 1), [.t 3], none⟩,
       ⟨none, .store 1, [.t 6, .t 19], none⟩,
       ⟨(some 7), .move, [.c (.bool true)], none⟩])
    (.ret))
    (.skip))) a81r4
def a81r2 : ACode := .seq (.seq (.region [⟨(some 10), .move, [.t 1], none⟩,
     ⟨(some 11), .bin .leq, [.t 10, .c (.int .i64 0)], none⟩,
     ⟨(some 12), .move, [.t 11], none⟩,
     ⟨(some 13), .load (some 1), [.t 3], some (12, false)⟩,
     ⟨(some 14), .call 80, [.t 13], some (12, false)⟩,
     ⟨(some 15), .pick, [.t 12, .c (.bool true), .t 14], none⟩])
  (.cond (.t 15)
    (.seq (.region [⟨(some 16), .load (some 1), [.t 8], none⟩,
       ⟨none, .store 1, [.t 6, .t 16], none⟩,
       ⟨(some 7), .move, [.c (.bool true)], none⟩])
    (.ret))
    (.skip))) a81r3
def a81r1 : ACode := .seq (.region [⟨(some 9), .call 33, [.c (.int .u64 1)], none⟩,
    ⟨(some 8), .alloc [.nil], [], none⟩,
    ⟨none, .store 1, [.t 8, .t 9], none⟩]) a81r2
def a81 : ACode := .seq (.region [⟨(some 3), .box, [.t 0], none⟩,
    ⟨(some 6), .alloc [.nil], [], none⟩,
    ⟨(some 7), .move, [.c (.bool false)], none⟩]) a81r1
theorem t81 : told Try.prog Try.f81 = some (33, a81, [.cell 6 (some 1), .tmp 7]) := by kernel_rfl

def a82r2 : ACode :=
  .ret
def a82r1 : ACode := .seq (.region [⟨(some 3), .move, [.t 0], none⟩,
    ⟨(some 4), .call 89, [.t 3], none⟩,
    ⟨(some 5), .bin .sub, [.c (.int .i64 32), .t 4], none⟩,
    ⟨(some 2), .move, [.t 5], none⟩]) a82r2
def a82 : ACode := .seq (.region [⟨(some 2), .move, [.c (.int .i64 0)], none⟩]) a82r1
theorem t82 : told Try.prog Try.f82 = some (6, a82, [.tmp 2]) := by kernel_rfl

def a83r6 : ACode :=
  .ret
def a83r5 : ACode := .seq (.region [⟨(some 64), .move, [.t 7], none⟩,
    ⟨(some 65), .call 58, [.t 64], none⟩,
    ⟨none, .store 1, [.t 4, .t 65], none⟩]) a83r6
def a83r4 : ACode := .seq (.seq (.region [⟨(some 32), .faddr 0, [.t 2], none⟩,
     ⟨(some 33), .load none, [.t 32], none⟩,
     ⟨(some 34), .lenL, [.t 33], none⟩,
     ⟨(some 35), .move, [.c (.int .i64 0)], none⟩])
  (.block 0 (.loop (.seq (.region [⟨(some 36), .bin .lss, [.t 35, .t 34], none⟩])
    (.seq (.cond (.t 36)
       (.skip)
       (.exit 0))
    (.seq (.block 1 (.seq (.region [⟨(some 37), .move, [.t 35], none⟩,
         ⟨(some 38), .iaddr 1, [.t 33, .t 35], none⟩,
         ⟨(some 39), .load none, [.t 38], none⟩,
         ⟨(some 8), .move, [.t 37], none⟩,
         ⟨(some 9), .move, [.t 39], none⟩])
      (.seq (.region [⟨(some 40), .move, [.t 9], none⟩,
         ⟨(some 41), .toInt .u64, [.t 40], none⟩,
         ⟨(some 42), .move, [.t 6], none⟩,
         ⟨(some 43), .bin .shl, [.t 41, .t 42], none⟩,
         ⟨(some 10), .move, [.t 43], none⟩])
      (.seq (.region [⟨(some 44), .move, [.t 7], none⟩,
         ⟨(some 45), .move, [.t 8], none⟩,
         ⟨(some 46), .move, [.t 5], none⟩,
         ⟨(some 47), .bin .add, [.t 45, .t 46], none⟩,
         ⟨(some 48), .iaddr 1, [.t 44, .t 47], none⟩,
         ⟨(some 49), .load none, [.t 48], none⟩,
         ⟨(some 50), .move, [.t 10], none⟩,
         ⟨(some 51), .toInt .u32, [.t 50], none⟩,
         ⟨(some 52), .bin .or, [.t 49, .t 51], none⟩,
         ⟨(some 53), .iaddr 1, [.t 44, .t 47], none⟩,
         ⟨none, .store 1, [.t 53, .t 52], none⟩])
      (.region [⟨(some 54), .move, [.t 7], none⟩,
        ⟨(some 55), .move, [.t 8], none⟩,
        ⟨(some 56), .move, [.t 5], none⟩,
        ⟨(some 57), .bin .add, [.t 55, .t 56], none⟩,
        ⟨(some 58), .bin .add, [.t 57, .c (.int .i64 1)], none⟩,
        ⟨(some 59), .move, [.t 10], none⟩,
        ⟨(some 60), .bin .shr, [.t 59, .c (.int .u64 32)], none⟩,
        ⟨(some 61), .toInt .u32, [.t 60], none⟩,
        ⟨(some 62), .iaddr 1, [.t 54, .t 58], none⟩,
        ⟨none, .store 1, [.t 62, .t 61], none⟩])))))
    (.region [⟨(some 63), .bin .add, [.t 35, .c (.int .i64 1)], none⟩,
      ⟨(some 35), .move, [.t 63], none⟩]))))))) a83r5
def a83r3 : ACode := .seq (.region [⟨(some 25), .faddr 0, [.t 2], none⟩,
    ⟨(some 26), .load none, [.t 25], none⟩,
    ⟨(some 27), .lenL, [.t 26], none⟩,
    ⟨(some 28), .move, [.t 5], none⟩,
    ⟨(some 29), .bin .add, [.t 27, .t 28], none⟩,
    ⟨(some 30), .bin .add, [.t 29, .c (.int .i64 1)], none⟩,
    ⟨(some 31), .mkSl 83 1 4 [.int .u32 0], [.t 30, .t 30], none⟩,
    ⟨(some 7), .move, [.t 31], none⟩]) a83r4
def a83r2 : ACode := .seq (.region [⟨(some 20), .move, [.t 1], none⟩,
    ⟨(some 21), .bin .quo, [.t 20, .c (.int .i64 32)], none⟩,
    ⟨(some 22), .move, [.t 1], none⟩,
    ⟨(some 23), .bin .rem, [.t 22, .c (.int .i64 32)], none⟩,
    ⟨(some 24), .toInt .u64, [.t 23], none⟩,
    ⟨(some 5), .move, [.t 21], none⟩,
    ⟨(some 6), .move, [.t 24], none⟩]) a83r3
def a83r1 : ACode := .seq (.seq (.region [⟨(some 11), .move, [.t 1], none⟩,
     ⟨(some 12), .bin .leq, [.t 11, .c (.int .i64 0)], none⟩,
     ⟨(some 13), .move, [.t 12], none⟩,
     ⟨(some 14), .faddr 0, [.t 2], some (13, false)⟩,
     ⟨(some 15), .load none, [.t 14], some (13, false)⟩,
     ⟨(some 16), .lenL, [.t 15], some (13, false)⟩,
     ⟨(some 17), .bin .eql, [.t 16, .c (.int .i64 0)], some (13, false)⟩,
     ⟨(some 18), .pick, [.t 13, .c (.bool true), .t 17], none⟩])
  (.cond (.t 18)
    (.seq (.region [⟨(some 19), .load (some 1), [.t 2], none⟩,
       ⟨none, .store 1, [.t 4, .t 19], none⟩])
    (.ret))
    (.skip))) a83r2
def a83 : ACode := .seq (.region [⟨(some 2), .box, [.t 0], none⟩,
    ⟨(some 4), .alloc [.nil], [], none⟩]) a83r1
theorem t83 : told Try.prog Try.f83 = some (66, a83, [.cell 4 (some 1)]) := by kernel_rfl

def a84r5 : ACode :=
  .ret
def a84r4 : ACode := .seq (.region [⟨(some 58), .move, [.t 8], none⟩,
    ⟨(some 59), .bin .eql, [.t 58, .c (.int .u32 1)], none⟩,
    ⟨(some 6), .move, [.t 59], none⟩]) a84r5
def a84r3 : ACode := .seq (.region [⟨(some 43), .move, [.t 0], none⟩,
    ⟨(some 44), .move, [.t 1], none⟩,
    ⟨(some 45), .lenL, [.t 44], none⟩,
    ⟨(some 46), .move, [.t 0], none⟩,
    ⟨(some 47), .move, [.t 1], none⟩,
    ⟨(some 48), .lenL, [.t 47], none⟩,
    ⟨(some 49), .iaddr 1, [.t 46, .t 48], none⟩,
    ⟨(some 50), .load none, [.t 49], none⟩,
    ⟨(some 51), .move, [.t 7], none⟩,
    ⟨(some 52), .toInt .u32, [.t 51], none⟩,
    ⟨(some 53), .move, [.t 8], none⟩,
    ⟨(some 54), .call 87, [.t 50, .t 52, .t 53], none⟩,
    ⟨(some 42), .move, [.t 54], none⟩,
    ⟨(some 55), .extract 0, [.t 42], none⟩,
    ⟨(some 56), .extract 1, [.t 42], none⟩,
    ⟨(some 57), .iaddr 1, [.t 43, .t 45], none⟩,
    ⟨none, .store 1, [.t 57, .t 55], none⟩,
    ⟨(some 8), .move, [.t 56], none⟩]) a84r4
def a84r2 : ACode := .seq (.seq (.region [⟨(some 12), .move, [.t 1], none⟩,
     ⟨(some 13), .lenL, [.t 12], none⟩,
     ⟨(some 14), .move, [.c (.int .i64 0)], none⟩])
  (.block 0 (.loop (.seq (.region [⟨(some 15), .bin .lss, [.t 14, .t 13], none⟩])
    (.seq (.cond (.t 15)
       (.skip)
       (.exit 0))
    (.seq (.block 1 (.seq (.region [⟨(some 16), .move, [.t 14], none⟩,
         ⟨(some 17), .iaddr 1, [.t 12, .t 14], none⟩,
         ⟨(some 18), .load none, [.t 17], none⟩,
         ⟨(some 9), .move, [.t 16], none⟩,
         ⟨(some 10), .move, [.t 18], none⟩])
      (.seq (.region [⟨(some 19), .move, [.t 2], none⟩,
         ⟨(some 20), .move, [.t 10], none⟩,
         ⟨(some 21), .toInt .u64, [.t 20], none⟩,
         ⟨(some 22), .bin .mul, [.t 19, .t 21], none⟩,
         ⟨(some 23), .move, [.t 7], none⟩,
         ⟨(some 24), .bin .add, [.t 22, .t 23], none⟩,
         ⟨(some 11), .move, [.t 24], none⟩])
      (.seq (.region [⟨(some 25), .move, [.t 11], none⟩,
         ⟨(some 26), .bin .shr, [.t 25, .c (.int .u64 32)], none⟩,
         ⟨(some 7), .move, [.t 26], none⟩])
      (.region [⟨(some 28), .move, [.t 0], none⟩,
        ⟨(some 29), .move, [.t 9], none⟩,
        ⟨(some 30), .move, [.t 0], none⟩,
        ⟨(some 31), .move, [.t 9], none⟩,
        ⟨(some 32), .iaddr 1, [.t 30, .t 31], none⟩,
        ⟨(some 33), .load none, [.t 32], none⟩,
        ⟨(some 34), .move, [.t 11], none⟩,
        ⟨(some 35), .toInt .u32, [.t 34], none⟩,
        ⟨(some 36), .move, [.t 8], none⟩,
        ⟨(some 37), .call 87, [.t 33, .t 35, .t 36], none⟩,
        ⟨(some 27), .move, [.t 37], none⟩,
        ⟨(some 38), .extract 0, [.t 27], none⟩,
        ⟨(some 39), .extract 1, [.t 27], none⟩,
        ⟨(some 40), .iaddr 1, [.t 28, .t 29], none⟩,
        ⟨none, .store 1, [.t 40, .t 38], none⟩,
        ⟨(some 8), .move, [.t 39], none⟩])))))
    (.region [⟨(some 41), .bin .add, [.t 14, .c (.int .i64 1)], none⟩,
      ⟨(some 14), .move, [.t 41], none⟩]))))))) a84r3
def a84r1 : ACode := .seq (.region [⟨(some 7), .move, [.c (.int .u64 0)], none⟩,
    ⟨(some 8), .move, [.c (.int .u32 0)], none⟩]) a84r2
def a84 : ACode := .seq (.region [⟨(some 6), .move, [.c (.bool false)], none⟩]) a84r1
theorem t84 : told Try.prog Try.f84 = some (60, a84, [.tmp 6]) := by kernel_rfl

def a85r2 : ACode :=
  .region [⟨(some 28), .move, [.t 0], none⟩,
    ⟨(some 29), .move, [.t 1], none⟩,
    ⟨(some 30), .lenL, [.t 29], none⟩,
    ⟨(some 31), .iaddr 1, [.t 28, .t 30], none⟩,
    ⟨(some 32), .load none, [.t 31], none⟩,
    ⟨(some 33), .move, [.t 4], none⟩,
    ⟨(some 34), .bin .add, [.t 32, .t 33], none⟩,
    ⟨(some 35), .iaddr 1, [.t 28, .t 30], none⟩,
    ⟨none, .store 1, [.t 35, .t 34], none⟩]
def a85r1 : ACode := .seq (.seq (.region [⟨(some 7), .move, [.t 1], none⟩,
     ⟨(some 8), .lenL, [.t 7], none⟩,
     ⟨(some 9), .move, [.c (.int .i64 0)], none⟩])
  (.block 0 (.loop (.seq (.region [⟨(some 10), .bin .lss, [.t 9, .t 8], none⟩])
    (.seq (.cond (.t 10)
       (.skip)
       (.exit 0))
    (.seq (.block 1 (.seq (.region [⟨(some 11), .move, [.t 9], none⟩,
         ⟨(some 12), .iaddr 1, [.t 7, .t 9], none⟩,
         ⟨(some 13), .load none, [.t 12], none⟩,
         ⟨(some 5), .move, [.t 11], none⟩,
         ⟨(some 6), .move, [.t 13], none⟩])
      (.region [⟨(some 15), .move, [.t 0], none⟩,
        ⟨(some 16), .move, [.t 5], none⟩,
        ⟨(some 17), .move, [.t 0], none⟩,
        ⟨(some 18), .move, [.t 5], none⟩,
        ⟨(some 19), .iaddr 1, [.t 17, .t 18], none⟩,
        ⟨(some 20), .load none, [.t 19], none⟩,
        ⟨(some 21), .move, [.t 6], none⟩,
        ⟨(some 22), .move, [.t 4], none⟩,
        ⟨(some 23), .call 79, [.t 20, .t 21, .t 22], none⟩,
        ⟨(some 14), .move, [.t 23], none⟩,
        ⟨(some 24), .extract 0, [.t 14], none⟩,
        ⟨(some 25), .extract 1, [.t 14], none⟩,
        ⟨(some 26), .iaddr 1, [.t 15, .t 16], none⟩,
        ⟨none, .store 1, [.t 26, .t 24], none⟩,
        ⟨(some 4), .move, [.t 25], none⟩])))
    (.region [⟨(some 27), .bin .add, [.t 9, .c (.int .i64 1)], none⟩,
      ⟨(some 9), .move, [.t 27], none⟩]))))))) a85r2
def a85 : ACode := .seq (.region [⟨(some 4), .move, [.c (.int .u32 0)], none⟩]) a85r1
theorem t85 : told Try.prog Try.f85 = some (36, a85, []) := by kernel_rfl

def a86r7 : ACode :=
  .ret
def a86r6 : ACode := .seq (.region [⟨(some 71), .move, [.t 7], none⟩,
    ⟨(some 72), .call 58, [.t 71], none⟩,
    ⟨none, .store 1, [.t 4, .t 72], none⟩]) a86r7
def a86r5 : ACode := .seq (.seq (.region [⟨(some 30), .move, [.t 7], none⟩,
     ⟨(some 31), .lenL, [.t 30], none⟩,
     ⟨(some 32), .move, [.c (.int .i64 0)], none⟩])
  (.block 0 (.loop (.seq (.region [⟨(some 33), .bin .lss, [.t 32, .t 31], none⟩])
    (.seq (.cond (.t 33)
       (.skip)
       (.exit 0))
    (.seq (.block 1 (.seq (.region [⟨(some 34), .move, [.t 32], none⟩,
         ⟨(some 8), .move, [.t 34], none⟩])
      (.seq (.region [⟨(some 35), .faddr 0, [.t 2], none⟩,
         ⟨(some 36), .load none, [.t 35], none⟩,
         ⟨(some 37), .move, [.t 8], none⟩,
         ⟨(some 38), .move, [.t 5], none⟩,
         ⟨(some 39), .bin .add, [.t 37, .t 38], none⟩,
         ⟨(some 40), .iaddr 1, [.t 36, .t 39], none⟩,
         ⟨(some 41), .load none, [.t 40], none⟩,
         ⟨(some 42), .toInt .u64, [.t 41], none⟩,
         ⟨(some 9), .move, [.t 42], none⟩])
      (.seq (.seq (.region [⟨(some 43), .move, [.t 8], none⟩,
          ⟨(some 44), .move, [.t 5], none⟩,
          ⟨(some 45), .bin .add, [.t 43, .t 44], none⟩,
          ⟨(some 46), .bin .add, [.t 45, .c (.int .i64 1)], none⟩,
          ⟨(some 47), .faddr 0, [.t 2], none⟩,
          ⟨(some 48), .load none, [.t 47], none⟩,
          ⟨(some 49), .lenL, [.t 48], none⟩,
          ⟨(some 50), .bin .lss, [.t 46, .t 49], none⟩])
       (.cond (.t 50)
         (.region [⟨(some 51), .move, [.t 9], none⟩,
           ⟨(some 52), .faddr 0, [.t 2], none⟩,
           ⟨(some 53), .load none, [.t 52], none⟩,
           ⟨(some 54), .move, [.t 8], none⟩,
           ⟨(some 55), .move, [.t 5], none⟩,
           ⟨(some 56), .bin .add, [.t 54, .t 55], none⟩,
           ⟨(some 57), .bin .add, [.t 56, .c (.int .i64 1)], none⟩,
           ⟨(some 58), .iaddr 1, [.t 53, .t 57], none⟩,
           ⟨(some 59), .load none, [.t 58], none⟩,
           ⟨(some 60), .toInt .u64, [.t 59], none⟩,
           ⟨(some 61), .bin .shl, [.t 60, .c (.int .u64 32)], none⟩,
           ⟨(some 62), .bin .or, [.t 51, .t 61], none⟩,
           ⟨(some 9), .move, [.t 62], none⟩])
         (.skip)))
      (.region [⟨(some 63), .move, [.t 7], none⟩,
        ⟨(some 64), .move, [.t 8], none⟩,
        ⟨(some 65), .move, [.t 9], none⟩,
        ⟨(some 66), .move, [.t 6], none⟩,
        ⟨(some 67), .bin .shr, [.t 65, .t 66], none⟩,
        ⟨(some 68), .toInt .u32, [.t 67], none⟩,
        ⟨(some 69), .iaddr 1, [.t 63, .t 64], none⟩,
        ⟨none, .store 1, [.t 69, .t 68], none⟩])))))
    (.region [⟨(some 70), .bin .add, [.t 32, .c (.int .i64 1)], none⟩,
      ⟨(some 32), .move, [.t 70], none⟩]))))))) a86r6
def a86r4 : ACode := .seq (.region [⟨(some 24), .faddr 0, [.t 2], none⟩,
    ⟨(some 25), .load none, [.t 24], none⟩,
    ⟨(some 26), .lenL, [.t 25], none⟩,
    ⟨(some 27), .move, [.t 5], none⟩,
    ⟨(some 28), .bin .sub, [.t 26, .t 27], none⟩,
    ⟨(some 29), .mkSl 83 1 4 [.int .u32 0], [.t 28, .t 28], none⟩,
    ⟨(some 7), .move, [.t 29], none⟩]) a86r5
def a86r3 : ACode := .seq (.seq (.region [⟨(some 18), .move, [.t 5], none⟩,
     ⟨(some 19), .faddr 0, [.t 2], none⟩,
     ⟨(some 20), .load none, [.t 19], none⟩,
     ⟨(some 21), .lenL, [.t 20], none⟩,
     ⟨(some 22), .bin .geq, [.t 18, .t 21], none⟩])
  (.cond (.t 22)
    (.seq (.region [⟨(some 23), .build [.nil] [], [], none⟩,
       ⟨none, .store 1, [.t 4, .t 23], none⟩])
    (.ret))
    (.skip))) a86r4
def a86r2 : ACode := .seq (.region [⟨(some 13), .move, [.t 1], none⟩,
    ⟨(some 14), .bin .quo, [.t 13, .c (.int .i64 32)], none⟩,
    ⟨(some 15), .move, [.t 1], none⟩,
    ⟨(some 16), .bin .rem, [.t 15, .c (.int .i64 32)], none⟩,
    ⟨(some 17), .toInt .u64, [.t 16], none⟩,
    ⟨(some 5), .move, [.t 14], none⟩,
    ⟨(some 6), .move, [.t 17], none⟩]) a86r3
def a86r1 : ACode := .seq (.seq (.region [⟨(some 10), .move, [.t 1], none⟩,
     ⟨(some 11), .bin .leq, [.t 10, .c (.int .i64 0)], none⟩])
  (.cond (.t 11)
    (.seq (.region [⟨(some 12), .load (some 1), [.t 2], none⟩,
       ⟨none, .store 1, [.t 4, .t 12], none⟩])
    (.ret))
    (.skip))) a86r2
def a86 : ACode := .seq (.region [⟨(some 2), .box, [.t 0], none⟩,
    ⟨(some 4), .alloc [.nil], [], none⟩]) a86r1
theorem t86 : told Try.prog Try.f86 = some (73, a86, [.cell 4 (some 1)]) := by kernel_rfl

def a87r3 : ACode :=
  .ret
def a87r2 : ACode := .seq (.region [⟨(some 13), .move, [.t 0], none⟩,
    ⟨(some 14), .un .xor, [.t 13], none⟩,
    ⟨(some 15), .move, [.t 1], none⟩,
    ⟨(some 16), .bin .and, [.t 14, .t 15], none⟩,
    ⟨(some 17), .move, [.t 0], none⟩,
    ⟨(some 18), .move, [.t 1], none⟩,
    ⟨(some 19), .bin .xor, [.t 17, .t 18], none⟩,
    ⟨(some 20), .un .xor, [.t 19], none⟩,
    ⟨(some 21), .move, [.t 6], none⟩,
    ⟨(some 22), .bin .and, [.t 20, .t 21], none⟩,
    ⟨(some 23), .bin .or, [.t 16, .t 22], none⟩,
    ⟨(some 24), .bin .shr, [.t 23, .c (.int .u64 31)], none⟩,
    ⟨(some 7), .move, [.t 24], none⟩]) a87r3
def a87r1 : ACode := .seq (.region [⟨(some 8), .move, [.t 0], none⟩,
    ⟨(some 9), .move, [.t 1], none⟩,
    ⟨(some 10), .bin .sub, [.t 8, .t 9], none⟩,
    ⟨(some 11), .move, [.t 2], none⟩,
    ⟨(some 12), .bin .sub, [.t 10, .t 11], none⟩,
    ⟨(some 6), .move, [.t 12], none⟩]) a87r2
def a87 : ACode := .seq (.region [⟨(some 6), .move, [.c (.int .u32 0)], none⟩,
    ⟨(some 7), .move, [.c (.int .u32 0)], none⟩]) a87r1
theorem t87 : told Try.prog Try.f87 = some (25, a87, [.tmp 6, .tmp 7]) := by kernel_rfl

def a88r3 : ACode :=
  .ret
def a88r2 : ACode := .seq (.region [⟨(some 9), .move, [.t 0], none⟩,
    ⟨(some 10), .move, [.t 0], none⟩,
    ⟨(some 11), .lenS, [.t 10], none⟩,
    ⟨(some 12), .bin .sub, [.t 11, .c (.int .i64 1)], none⟩,
    ⟨(some 13), .move, [.t 1], none⟩,
    ⟨(some 14), .bin .sub, [.t 12, .t 13], none⟩,
    ⟨(some 15), .index, [.t 9, .t 14], none⟩,
    ⟨(some 16), .bin .sub, [.t 15, .c (.int .u8 48)], none⟩,
    ⟨(some 17), .toInt .i64, [.t 16], none⟩,
    ⟨(some 4), .move, [.t 17], none⟩]) a88r3
def a88r1 : ACode := .seq (.seq (.region [⟨(some 5), .move, [.t 1], none⟩,
     ⟨(some 6), .move, [.t 0], none⟩,
     ⟨(some 7), .lenS, [.t 6], none⟩,
     ⟨(some 8), .bin .geq, [.t 5, .t 7], none⟩])
  (.cond (.t 8)
    (.seq (.region [⟨(some 4), .move, [.c (.int .i64 0)], none⟩])
    (.ret))
    (.skip))) a88r2
def a88 : ACode := .seq (.region [⟨(some 4), .move, [.c (.int .i64 0)], none⟩]) a88r1
theorem t88 : told Try.prog Try.f88 = some (18, a88, [.tmp 4]) := by kernel_rfl

def a89r4 : ACode :=
  .ret
def a89r3 : ACode := .seq (.region [⟨(some 13), .move, [.t 2], none⟩,
    ⟨(some 14), .move, [.t 0], none⟩,
    ⟨(some 15), .toInt .u8, [.t 14], none⟩,
    ⟨(some 16), .index, [.c (.str ⟨#[0, 1, 2, 2, 3, 3, 3, 3, 4, 4, 4, 4, 4, 4, 4, 4, 5, 5, 5, 5, 5, 5, 5, 5, 5, 5, 5, 5, 5, 5, 5, 5, 6, 6, 6, 6, 6, 6, 6, 6, 6, 6, 6, 6, 6, 6, 6, 6, 6, 6, 6, 6, 6, 6, 6, 6, 6, 6, 6, 6, 6, 6, 6, 6, 7, 7, 7, 7, 7, 7, 7, 7, 7, 7, 7, 7, 7, 7, 7, 7, 7, 7, 7, 7, 7, 7, 7, 7, 7, 7, 7, 7, 7, 7, 7, 7, 7, 7, 7, 7, 7, 7, 7, 7, 7, 7, 7, 7, 7, 7, 7, 7, 7, 7, 7, 7, 7, 7, 7, 7, 7, 7, 7, 7, 7, 7, 7, 7, 8, 8, 8, 8, 8, 8, 8, 8, 8, 8, 8, 8, 8, 8, 8, 8, 8, 8, 8, 8, 8, 8, 8, 8, 8, 8, 8, 8, 8, 8, 8, 8, 8, 8, 8, 8, 8, 8, 8, 8, 8, 8, 8, 8, 8, 8, 8, 8, 8, 8, 8, 8, 8, 8, 8, 8, 8, 8, 8, 8, 8, 8, 8, 8, 8, 8, 8, 8, 8, 8, 8, 8, 8, 8, 8, 8, 8, 8, 8, 8, 8, 8, 8, 8, 8, 8, 8, 8, 8, 8, 8, 8, 8, 8, 8, 8, 8, 8, 8, 8, 8, 8, 8, 8, 8, 8, 8, 8, 8, 8, 8, 8, 8, 8, 8, 8, 8, 8, 8, 8, 8, 8, 8, 8, 8, 8, 8, 8]⟩), .t 15], none⟩,
    ⟨(some 17), .toInt .i64, [.t 16], none⟩,
    ⟨(some 18), .bin .add, [.t 13, .t 17], none⟩,
    ⟨(some 2), .move, [.t 18], none⟩]) a89r4
def a89r2 : ACode := .seq (.seq (.region [⟨(some 7), .move, [.t 0], none⟩,
     ⟨(some 8), .bin .geq, [.t 7, .c (.int .u32 256)], none⟩])
  (.cond (.t 8)
    (.seq (.region [⟨(some 9), .move, [.t 0], none⟩,
       ⟨(some 10), .bin .shr, [.t 9, .c (.int .u64 8)], none⟩,
       ⟨(some 0), .move, [.t 10], none⟩])
    (.region [⟨(some 11), .move, [.t 2], none⟩,
      ⟨(some 12), .bin .add, [.t 11, .c (.int .i64 8)], none⟩,
      ⟨(some 2), .move, [.t 12], none⟩]))
    (.skip))) a89r3
def a89r1 : ACode := .seq (.seq (.region [⟨(some 3), .move, [.t 0], none⟩,
     ⟨(some 4), .bin .geq, [.t 3, .c (.int .u32 65536)], none⟩])
  (.cond (.t 4)
    (.seq (.region [⟨(some 5), .move, [.t 0], none⟩,
       ⟨(some 6), .bin .shr, [.t 5, .c (.int .u64 16)], none⟩,
       ⟨(some 0), .move, [.t 6], none⟩])
    (.region [⟨(some 2), .move, [.c (.int .i64 16)], none⟩]))
    (.skip))) a89r2
def a89 : ACode := .seq (.region [⟨(some 2), .move, [.c (.int .i64 0)], none⟩]) a89r1
theorem t89 : told Try.prog Try.f89 = some (19, a89, [.tmp 2]) := by kernel_rfl

def tab : Tab := [(2, 1, a2, []),
  (3, 15, a3, [.tmp 4]),
  (4, 120, a4, [.tmp 4]),
  (5, 155, a5, [.tmp 6]),
  (6, 28, a6, [.tmp 4]),
  (7, 42, a7, [.tmp 4]),
  (8, 55, a8, [.tmp 0]),
  (9, 24, a9, [.cell 2 (some 3), .tmp 3]),
  (10, 56, a10, [.cell 8 (some 3), .tmp 9]),
  (11, 18, a11, [.tmp 4]),
  (12, 39, a12, [.cell 4 (some 3)]),
  (13, 7, a13, [.cell 2 (some 3)]),
  (14, 31, a14, [.cell 4 (some 3)]),
  (15, 6, a15, [.tmp 2]),
  (16, 14, a16, [.cell 2 (some 3)]),
  (17, 11, a17, [.cell 2 (some 3)]),
  (18, 50, a18, [.tmp 2]),
  (19, 46, a19, [.cell 2 (some 3), .tmp 3]),
  (20, 11, a20, [.tmp 2]),
  (21, 6, a21, [.cell 2 (some 3)]),
  (22, 9, a22, [.tmp 2]),
  (23, 72, a23, [.cell 6 (some 3), .tmp 7]),
  (24, 16, a24, [.tmp 2]),
  (25, 91, a25, [.cell 8 (some 3), .tmp 9]),
  (26, 11, a26, [.tmp 2]),
  (27, 26, a27, [.cell 4 (some 2)]),
  (28, 6, a28, [.cell 2 (some 2)]),
  (29, 34, a29, [.tmp 4]),
  (30, 47, a30, [.cell 4 (some 3), .tmp 5]),
  (31, 18, a31, [.cell 4 (some 2)]),
  (32, 16, a32, [.cell 2 (some 2)]),
  (33, 10, a33, [.cell 2 (some 1)]),
  (34, 10, a34, [.tmp 2]),
  (35, 5, a35, [.tmp 2]),
  (36, 70, a36, [.tmp 2]),
  (37, 9, a37, [.cell 2 (some 1)]),
  (38, 16, a38, [.cell 2 (some 2)]),
  (39, 32, a39, [.tmp 2]),
  (40, 14, a40, [.tmp 2]),
  (41, 25, a41, [.tmp 4]),
  (42, 60, a42, [.cell 2 (some 1), .tmp 3]),
  (43, 13, a43, [.cell 4 (some 2)]),
  (44, 12, a44, [.tmp 2, .tmp 3]),
  (45, 9, a45, [.cell 2 (some 3)]),
  (46, 21, a46, [.cell 4 (some 3), .tmp 5]),
  (47, 26, a47, [.cell 4 (some 3)]),
  (48, 65, a48, [.cell 6 (some 3), .tmp 7]),
  (49, 86, a49, [.cell 6 (some 3), .tmp 7]),
  (50, 6, a50, [.tmp 2]),
  (51, 73, a51, [.cell 4 (some 1)]),
  (52, 50, a52, [.tmp 4]),
  (53, 7, a53, [.tmp 2]),
  (54, 47, a54, [.cell 4 (some 1)]),
  (55, 5, a55, [.cell 2 (some 1)]),
  (56, 51, a56, [.cell 4 (some 1), .cell 5 (some 1), .tmp 6]),
  (57, 47, a57, [.cell 4 (some 2)]),
  (58, 22, a58, [.cell 2 (some 1)]),
  (59, 47, a59, [.cell 4 (some 1), .tmp 5]),
  (60, 25, a60, [.tmp 2]),
  (61, 50, a61, [.tmp 4, .tmp 5]),
  (62, 60, a62, [.cell 4 (some 1)]),
  (63, 6, a63, [.tmp 2]),
  (64, 38, a64, [.tmp 2, .tmp 3]),
  (65, 9, a65, [.cell 2 (some 2)]),
  (66, 6, a66, [.cell 2 (some 3)]),
  (67, 16, a67, [.cell 2 (some 2)]),
  (68, 17, a68, [.tmp 2]),
  (69, 5, a69, [.cell 2 (some 2)]),
  (70, 15, a70, [.tmp 2]),
  (71, 83, a71, [.cell 6 (some 3), .tmp 7]),
  (72, 60, a72, [.cell 4 (some 2), .cell 5 (some 2), .tmp 6]),
  (73, 30, a73, [.tmp 2, .tmp 3]),
  (74, 152, a74, [.cell 4 (some 1), .cell 5 (some 1)]),
  (75, 52, a75, [.cell 4 (some 1), .tmp 5]),
  (76, 31, a76, [.tmp 2]),
  (77, 21, a77, [.tmp 4]),
  (78, 34, a78, [.tmp 4]),
  (79, 22, a79, [.tmp 6, .tmp 7]),
  (80, 14, a80, [.tmp 2]),
  (81, 33, a81, [.cell 6 (some 1), .tmp 7]),
  (82, 6, a82, [.tmp 2]),
  (83, 66, a83, [.cell 4 (some 1)]),
  (84, 60, a84, [.tmp 6]),
  (85, 36, a85, []),
  (86, 73, a86, [.cell 4 (some 1)]),
  (87, 25, a87, [.tmp 6, .tmp 7]),
  (88, 18, a88, [.tmp 4]),
  (89, 19, a89, [.tmp 2])]
theorem tab_ok : ∀ p ∈ tab, ∃ fn, Try.prog.funcs[p.1]? = some fn ∧ told Try.prog fn = some p.2 :=
  List.forall_mem_cons.2 ⟨⟨_, Try.func2, t2⟩, List.forall_mem_cons.2 ⟨⟨_, Try.func3, t3⟩, List.forall_mem_cons.2 ⟨⟨_, Try.func4, t4⟩, List.forall_mem_cons.2 ⟨⟨_, Try.func5, t5⟩, List.forall_mem_cons.2 ⟨⟨_, Try.func6, t6⟩, List.forall_mem_cons.2 ⟨⟨_, Try.func7, t7⟩, List.forall_mem_cons.2 ⟨⟨_, Try.func8, t8⟩, List.forall_mem_cons.2 ⟨⟨_, Try.func9, t9⟩, List.forall_mem_cons.2 ⟨⟨_, Try.func10, t10⟩, List.forall_mem_cons.2 ⟨⟨_, Try.func11, t11⟩, List.forall_mem_cons.2 ⟨⟨_, Try.func12, t12⟩, List.forall_mem_cons.2 ⟨⟨_, Try.func13, t13⟩, List.forall_mem_cons.2 ⟨⟨_, Try.func14, t14⟩, List.forall_mem_cons.2 ⟨⟨_, Try.func15, t15⟩, List.forall_mem_cons.2 ⟨⟨_, Try.func16, t16⟩, List.forall_mem_cons.2 ⟨⟨_, Try.func17, t17⟩, List.forall_mem_cons.2 ⟨⟨_, Try.func18, t18⟩, List.forall_mem_cons.2 ⟨⟨_, Try.func19, t19⟩, List.forall_mem_cons.2 ⟨⟨_, Try.func20, t20⟩, List.forall_mem_cons.2 ⟨⟨_, Try.func21, t21⟩, List.forall_mem_cons.2 ⟨⟨_, Try.func22, t22⟩, List.forall_mem_cons.2 ⟨⟨_, Try.func23, t23⟩, List.forall_mem_cons.2 ⟨⟨_, Try.func24, t24⟩, List.forall_mem_cons.2 ⟨⟨_, Try.func25, t25⟩, List.forall_mem_cons.2 ⟨⟨_, Try.func26, t26⟩, List.forall_mem_cons.2 ⟨⟨_, Try.func27, t27⟩, List.forall_mem_cons.2 ⟨⟨_, Try.func28, t28⟩, List.forall_mem_cons.2 ⟨⟨_, Try.func29, t29⟩, List.forall_mem_cons.2 ⟨⟨_, Try.func30, t30⟩, List.forall_mem_cons.2 ⟨⟨_, Try.func31, t31⟩, List.forall_mem_cons.2 ⟨⟨_, Try.func32, t32⟩, List.forall_mem_cons.2 ⟨⟨_, Try.func33, t33⟩, List.forall_mem_cons.2 ⟨⟨_, Try.func34, t34⟩, List.forall_mem_cons.2 ⟨⟨_, Try.func35, t35⟩, List.forall_mem_cons.2 ⟨⟨_, Try.func36, t36⟩, List.forall_mem_cons.2 ⟨⟨_, Try.func37, t37⟩, List.forall_mem_cons.2 ⟨⟨_, Try.func38, t38⟩, List.forall_mem_cons.2 ⟨⟨_, Try.func39, t39⟩, List.forall_mem_cons.2 ⟨⟨_, Try.func40, t40⟩, List.forall_mem_cons.2 ⟨⟨_, Try.func41, t41⟩, List.forall_mem_cons.2 ⟨⟨_, Try.func42, t42⟩, List.forall_mem_cons.2 ⟨⟨_, Try.func43, t43⟩, List.forall_mem_cons.2 ⟨⟨_, Try.func44, t44⟩, List.forall_mem_cons.2 ⟨⟨_, Try.func45, t45⟩, List.forall_mem_cons.2 ⟨⟨_, Try.func46, t46⟩, List.forall_mem_cons.2 ⟨⟨_, Try.func47, t47⟩, List.forall_mem_cons.2 ⟨⟨_, Try.func48, t48⟩, List.forall_mem_cons.2 ⟨⟨_, Try.func49, t49⟩, List.forall_mem_cons.2 ⟨⟨_, Try.func50, t50⟩, List.forall_mem_cons.2 ⟨⟨_, Try.func51, t51⟩, List.forall_mem_cons.2 ⟨⟨_, Try.func52, t52⟩, List.forall_mem_cons.2 ⟨⟨_, Try.func53, t53⟩, List.forall_mem_cons.2 ⟨⟨_, Try.func54, t54⟩, List.forall_mem_cons.2 ⟨⟨_, Try.func55, t55⟩, List.forall_mem_cons.2 ⟨⟨_, Try.func56, t56⟩, List.forall_mem_cons.2 ⟨⟨_, Try.func57, t57⟩, List.forall_mem_cons.2 ⟨⟨_, Try.func58, t58⟩, List.forall_mem_cons.2 ⟨⟨_, Try.func59, t59⟩, List.forall_mem_cons.2 ⟨⟨_, Try.func60, t60⟩, List.forall_mem_cons.2 ⟨⟨_, Try.func61, t61⟩, List.forall_mem_cons.2 ⟨⟨_, Try.func62, t62⟩, List.forall_mem_cons.2 ⟨⟨_, Try.func63, t63⟩, List.forall_mem_cons.2 ⟨⟨_, Try.func64, t64⟩, List.forall_mem_cons.2 ⟨⟨_, Try.func65, t65⟩, List.forall_mem_cons.2 ⟨⟨_, Try.func66, t66⟩, List.forall_mem_cons.2 ⟨⟨_, Try.func67, t67⟩, List.forall_mem_cons.2 ⟨⟨_, Try.func68, t68⟩, List.forall_mem_cons.2 ⟨⟨_, Try.func69, t69⟩, List.forall_mem_cons.2 ⟨⟨_, Try.func70, t70⟩, List.forall_mem_cons.2 ⟨⟨_, Try.func71, t71⟩, List.forall_mem_cons.2 ⟨⟨_, Try.func72, t72⟩, List.forall_mem_cons.2 ⟨⟨_, Try.func73, t73⟩, List.forall_mem_cons.2 ⟨⟨_, Try.func74, t74⟩, List.forall_mem_cons.2 ⟨⟨_, Try.func75, t75⟩, List.forall_mem_cons.2 ⟨⟨_, Try.func76, t76⟩, List.forall_mem_cons.2 ⟨⟨_, Try.func77, t77⟩, List.forall_mem_cons.2 ⟨⟨_, Try.func78, t78⟩, List.forall_mem_cons.2 ⟨⟨_, Try.func79, t79⟩, List.forall_mem_cons.2 ⟨⟨_, Try.func80, t80⟩, List.forall_mem_cons.2 ⟨⟨_, Try.func81, t81⟩, List.forall_mem_cons.2 ⟨⟨_, Try.func82, t82⟩, List.forall_mem_cons.2 ⟨⟨_, Try.func83, t83⟩, List.forall_mem_cons.2 ⟨⟨_, Try.func84, t84⟩, List.forall_mem_cons.2 ⟨⟨_, Try.func85, t85⟩, List.forall_mem_cons.2 ⟨⟨_, Try.func86, t86⟩, List.forall_mem_cons.2 ⟨⟨_, Try.func87, t87⟩, List.forall_mem_cons.2 ⟨⟨_, Try.func88, t88⟩, List.forall_mem_cons.2 ⟨⟨_, Try.func89, t89⟩, fun _ h => (by cases h)⟩⟩⟩⟩⟩⟩⟩⟩⟩⟩⟩⟩⟩⟩⟩⟩⟩⟩⟩⟩⟩⟩⟩⟩⟩⟩⟩⟩⟩⟩⟩⟩⟩⟩⟩⟩⟩⟩⟩⟩⟩⟩⟩⟩⟩⟩⟩⟩⟩⟩⟩⟩⟩⟩⟩⟩⟩⟩⟩⟩⟩⟩⟩⟩⟩⟩⟩⟩⟩⟩⟩⟩⟩⟩⟩⟩⟩⟩⟩⟩⟩⟩⟩⟩⟩⟩⟩⟩
theorem hm : Try.prog.follows .mixedOrders = true := Try.checked.mixed
end Go.Ev.T
