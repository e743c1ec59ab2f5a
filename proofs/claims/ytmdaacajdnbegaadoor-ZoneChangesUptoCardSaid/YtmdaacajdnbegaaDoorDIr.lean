/- The functions in the code of the machine, each held against the loaded code by the kernel. Written by a program of ours. -/
import Derived.Test.YtmdaacajdnbegaaDoorProg
import Derived.Test.YtmdaacajdnbegaaDoorDComp
import Derived.KernelRfl
namespace Go.Proofs.YtmdaacajdnbegaaDoor
open Go Go.Dm
set_option maxRecDepth 100000
/-- pinfold/pinfoldlaw20.ZoneChanges -/
def e3 : ICode :=
  .seq (.reg [⟨some 4, .lt .mv [.c (.b false)], none⟩])
    (.seq (.seq (.reg [⟨some 15, .callf 5 [], none⟩,
        ⟨some 16, .lt .not [.t 15], none⟩])
    (.cond (.t 16) (.seq (.reg [⟨some 4, .lt .mv [.c (.b false)], none⟩])
      (.ret))
    (.skip)))
    (.seq (.reg [⟨some 17, .lt .mv [.t 1], none⟩,
        ⟨some 18, .lt (.bin .and) [.t 17, .c (.i .i64 63)], none⟩,
        ⟨some 5, .lt .mv [.t 18], none⟩])
    (.seq (.reg [⟨some 19, .lt (.build [(.i .i64 0), (.i .i64 0), (.s []), (.i .i64 0), (.s []), (.b false)] [(0, 1), (1, 1), (2, 1), (3, 1), (4, 1), (5, 1)]) [.c (.i .i64 10), .c (.i .i64 2), .c (.s [109, 101]), .c (.i .i64 1000), .c (.s [112, 99]), .c (.b true)], none⟩,
        ⟨some 6, .lt (.new 24 [(.i .i64 0), (.i .i64 0), (.s []), (.i .i64 0), (.s []), (.b false)]) [], none⟩,
        ⟨none, .lt (.st 6) [.t 6, .t 19], none⟩])
    (.seq (.reg [⟨some 20, .lt (.ld true 6) [.t 6], none⟩,
        ⟨some 7, .lt (.new 24 [(.i .i64 0), (.i .i64 0), (.s []), (.i .i64 0), (.s []), (.b false)]) [], none⟩,
        ⟨none, .lt (.st 6) [.t 7, .t 20], none⟩])
    (.seq (.reg [⟨some 8, .lt .mv [.c (.b false)], none⟩])
    (.seq (.seq (.reg [⟨some 21, .lt .mv [.t 0], none⟩,
        ⟨some 22, .lt (.cvi .u64) [.t 21], none⟩,
        ⟨some 23, .lt (.bin .rem) [.t 22, .c (.i .u64 8)], none⟩])
    (.block 0 (.seq (.reg [⟨some 27, .lt (.bin .eql) [.t 23, .c (.i .u64 0)], none⟩,
          ⟨some 26, .lt .mv [.t 27], none⟩])
      (.cond (.t 26) (.reg [⟨some 28, .lt (.fa 3) [.t 7], none⟩,
            ⟨none, .lt (.st 1) [.t 28, .c (.i .i64 2000)], none⟩])
      (.seq (.reg [⟨some 30, .lt (.bin .eql) [.t 23, .c (.i .u64 1)], none⟩,
            ⟨some 29, .lt .mv [.t 30], none⟩])
        (.cond (.t 29) (.seq (.reg [⟨some 31, .lt (.fa 0) [.t 7], none⟩,
              ⟨none, .lt (.st 1) [.t 31, .c (.i .i64 11)], none⟩])
          (.reg [⟨some 8, .lt .mv [.c (.b true)], none⟩]))
        (.seq (.reg [⟨some 33, .lt (.bin .eql) [.t 23, .c (.i .u64 2)], none⟩,
              ⟨some 32, .lt .mv [.t 33], none⟩])
          (.cond (.t 32) (.seq (.reg [⟨some 34, .lt (.fa 2) [.t 7], none⟩,
                ⟨none, .lt (.st 1) [.t 34, .c (.s [111, 116, 104, 101, 114])], none⟩])
            (.reg [⟨some 8, .lt .mv [.c (.b true)], none⟩]))
          (.seq (.reg [⟨some 36, .lt (.bin .eql) [.t 23, .c (.i .u64 3)], none⟩,
                ⟨some 35, .lt .mv [.t 36], none⟩])
            (.cond (.t 35) (.seq (.reg [⟨some 37, .lt (.fa 4) [.t 7], none⟩,
                  ⟨none, .lt (.st 1) [.t 37, .c (.s [116, 118])], none⟩])
              (.reg [⟨some 8, .lt .mv [.c (.b true)], none⟩]))
            (.seq (.reg [⟨some 39, .lt (.bin .eql) [.t 23, .c (.i .u64 4)], none⟩,
                  ⟨some 38, .lt .mv [.t 39], none⟩])
              (.cond (.t 38) (.reg [⟨some 40, .lt (.fa 4) [.t 7], none⟩,
                    ⟨none, .lt (.st 1) [.t 40, .c (.s [112, 99, 46, 108, 97, 110])], none⟩])
              (.seq (.reg [⟨some 42, .lt (.bin .eql) [.t 23, .c (.i .u64 5)], none⟩,
                    ⟨some 41, .lt .mv [.t 42], none⟩])
                (.cond (.t 41) (.seq (.reg [⟨some 43, .lt (.fa 5) [.t 7], none⟩,
                      ⟨none, .lt (.st 1) [.t 43, .c (.b false)], none⟩])
                  (.reg [⟨some 8, .lt .mv [.c (.b true)], none⟩]))
                (.seq (.reg [⟨some 45, .lt (.bin .eql) [.t 23, .c (.i .u64 6)], none⟩,
                      ⟨some 44, .lt .mv [.t 45], none⟩])
                  (.cond (.t 44) (.seq (.reg [⟨some 46, .lt (.build [(.i .i64 0), (.i .i64 0), (.s []), (.i .i64 0), (.s []), (.b false)] [(0, 1), (2, 1), (3, 1)]) [.c (.i .i64 10), .c (.s [109, 101]), .c (.i .i64 1000)], none⟩,
                        ⟨none, .lt (.st 6) [.t 7, .t 46], none⟩])
                    (.reg [⟨some 8, .lt .mv [.c (.b true)], none⟩]))
                  (.seq (.reg [⟨some 24, .lt .mv [.t 5], none⟩,
                        ⟨some 25, .lt (.fa 3) [.t 7], none⟩,
                        ⟨none, .lt (.st 1) [.t 25, .t 24], none⟩])
                    (.reg [⟨some 8, .lt .mv [.c (.b true)], none⟩]))))))))))))))))))
    (.seq (.draw [⟨some 48, .callf 7 [], none⟩,
        ⟨some 49, .lt (.ld true 6) [.t 6], none⟩,
        ⟨some 50, .lt (.bsl 24 6 1 [(.i .i64 0), (.i .i64 0), (.s []), (.i .i64 0), (.s []), (.b false)] [0]) [.t 49], none⟩,
        ⟨some 51, .lt (.ld true 6) [.t 7], none⟩,
        ⟨some 52, .lt (.bsl 24 6 1 [(.i .i64 0), (.i .i64 0), (.s []), (.i .i64 0), (.s []), (.b false)] [0]) [.t 51], none⟩,
        ⟨some 53, .lt .mv [.t 5], none⟩,
        ⟨some 54, .lt .mv [.t 5], none⟩,
        ⟨some 55, .callf 6 [.t 48, .t 50, .t 52, .t 53, .t 54], none⟩,
        ⟨some 47, .lt .mv [.t 55], none⟩,
        ⟨some 56, .lt (.ext 0) [.t 47], none⟩,
        ⟨some 57, .lt (.ext 1) [.t 47], none⟩,
        ⟨some 9, .lt .mv [.t 56], none⟩,
        ⟨some 10, .lt .mv [.t 57], none⟩] [0, 0, 2, 0, 8, 0, 0, 127, 255, 511, 511, 1023, 4095])
    (.seq (.draw [⟨some 59, .callf 7 [], none⟩,
        ⟨some 60, .lt (.ld true 6) [.t 7], none⟩,
        ⟨some 61, .lt (.bsl 24 6 1 [(.i .i64 0), (.i .i64 0), (.s []), (.i .i64 0), (.s []), (.b false)] [0]) [.t 60], none⟩,
        ⟨some 62, .lt (.ld true 6) [.t 6], none⟩,
        ⟨some 63, .lt (.bsl 24 6 1 [(.i .i64 0), (.i .i64 0), (.s []), (.i .i64 0), (.s []), (.b false)] [0]) [.t 62], none⟩,
        ⟨some 64, .lt .mv [.t 5], none⟩,
        ⟨some 65, .lt .mv [.t 5], none⟩,
        ⟨some 66, .callf 6 [.t 59, .t 61, .t 63, .t 64, .t 65], none⟩,
        ⟨some 58, .lt .mv [.t 66], none⟩,
        ⟨some 67, .lt (.ext 0) [.t 58], none⟩,
        ⟨some 68, .lt (.ext 1) [.t 58], none⟩,
        ⟨some 11, .lt .mv [.t 67], none⟩,
        ⟨some 12, .lt .mv [.t 68], none⟩] [0, 0, 2, 0, 8, 0, 0, 127, 255, 511, 511, 1023, 4095])
    (.seq (.draw [⟨some 70, .callf 7 [], none⟩,
        ⟨some 71, .lt (.ld true 6) [.t 7], none⟩,
        ⟨some 72, .lt (.bsl 24 6 1 [(.i .i64 0), (.i .i64 0), (.s []), (.i .i64 0), (.s []), (.b false)] [0]) [.t 71], none⟩,
        ⟨some 73, .lt (.ld true 6) [.t 7], none⟩,
        ⟨some 74, .lt (.bsl 24 6 1 [(.i .i64 0), (.i .i64 0), (.s []), (.i .i64 0), (.s []), (.b false)] [0]) [.t 73], none⟩,
        ⟨some 75, .lt .mv [.t 5], none⟩,
        ⟨some 76, .lt .mv [.t 5], none⟩,
        ⟨some 77, .callf 6 [.t 70, .t 72, .t 74, .t 75, .t 76], none⟩,
        ⟨some 69, .lt .mv [.t 77], none⟩,
        ⟨some 78, .lt (.ext 0) [.t 69], none⟩,
        ⟨some 79, .lt (.ext 1) [.t 69], none⟩,
        ⟨some 13, .lt .mv [.t 78], none⟩,
        ⟨some 14, .lt .mv [.t 79], none⟩] [0, 0, 2, 0, 8, 0, 0, 127, 255, 511, 511, 1023, 4095])
    (.seq (.reg [⟨some 80, .lt .mv [.t 10], none⟩,
        ⟨some 81, .callf 8 [.t 80], none⟩,
        ⟨some 82, .lt (.bin .eql) [.t 81, .c (.i .i64 0)], none⟩,
        ⟨some 83, .lt .mv [.t 82], none⟩,
        ⟨some 84, .lt .mv [.t 12], some (83, true)⟩,
        ⟨some 85, .callf 8 [.t 84], some (83, true)⟩,
        ⟨some 86, .lt (.bin .eql) [.t 85, .c (.i .i64 0)], some (83, true)⟩,
        ⟨some 87, .lt .pick [.t 83, .t 86, .c (.b false)], none⟩,
        ⟨some 88, .lt .mv [.t 87], none⟩,
        ⟨some 89, .lt .mv [.t 14], some (88, true)⟩,
        ⟨some 90, .callf 8 [.t 89], some (88, true)⟩,
        ⟨some 91, .lt (.bin .eql) [.t 90, .c (.i .i64 0)], some (88, true)⟩,
        ⟨some 92, .lt .pick [.t 88, .t 91, .c (.b false)], none⟩,
        ⟨some 93, .lt .mv [.t 92], none⟩,
        ⟨some 94, .lt .mv [.t 9], some (93, true)⟩,
        ⟨some 95, .lt .mv [.t 8], some (93, true)⟩,
        ⟨some 96, .lt (.eqn .bool false) [.t 94, .t 95], some (93, true)⟩,
        ⟨some 97, .lt .pick [.t 93, .t 96, .c (.b false)], none⟩,
        ⟨some 98, .lt .mv [.t 97], none⟩,
        ⟨some 99, .lt .mv [.t 11], some (98, true)⟩,
        ⟨some 100, .lt .mv [.t 8], some (98, true)⟩,
        ⟨some 101, .lt (.eqn .bool false) [.t 99, .t 100], some (98, true)⟩,
        ⟨some 102, .lt .pick [.t 98, .t 101, .c (.b false)], none⟩,
        ⟨some 103, .lt .mv [.t 102], none⟩,
        ⟨some 104, .lt .mv [.t 13], some (103, true)⟩,
        ⟨some 105, .lt .not [.t 104], some (103, true)⟩,
        ⟨some 106, .lt .pick [.t 103, .t 105, .c (.b false)], none⟩,
        ⟨some 4, .lt .mv [.t 106], none⟩])
    (.ret)))))))))))
def d3 : IFunc := ⟨107, [.t 4], e3⟩
theorem c3 : compF Tryd.prog Tryd.f3 = some d3 := by kernel_rfl
/-- pinfold/pinfoldlaw20.ZoneSwept -/
def e4 : ICode :=
  .seq (.reg [⟨some 3, .lt (.box 33 7) [.t 0], none⟩,
        ⟨some 6, .lt .mv [.c (.b false)], none⟩])
    (.seq (.seq (.reg [⟨some 15, .callf 5 [], none⟩,
        ⟨some 16, .lt .not [.t 15], none⟩])
    (.cond (.t 16) (.seq (.reg [⟨some 6, .lt .mv [.c (.b false)], none⟩])
      (.ret))
    (.skip)))
    (.seq (.reg [⟨some 18, .lt (.ld true 7) [.t 3], none⟩,
        ⟨some 19, .lt .mv [.t 1], none⟩,
        ⟨some 20, .lt .mv [.t 2], none⟩,
        ⟨some 21, .callf 9 [.t 18, .t 19, .t 20, .c (.i .i64 3)], none⟩,
        ⟨some 17, .lt .mv [.t 21], none⟩,
        ⟨some 22, .lt (.ext 0) [.t 17], none⟩,
        ⟨some 23, .lt (.ext 1) [.t 17], none⟩,
        ⟨some 7, .lt .mv [.t 22], none⟩,
        ⟨some 8, .lt .mv [.t 23], none⟩])
    (.seq (.seq (.reg [⟨some 24, .lt .mv [.t 8], none⟩,
        ⟨some 25, .callf 8 [.t 24], none⟩,
        ⟨some 26, .lt (.bin .neq) [.t 25, .c (.i .i64 0)], none⟩])
    (.cond (.t 26) (.seq (.reg [⟨some 27, .lt .mv [.t 7], none⟩,
          ⟨some 28, .lt (.len false) [.t 27], none⟩,
          ⟨some 29, .lt (.bin .eql) [.t 28, .c (.i .i64 0)], none⟩,
          ⟨some 6, .lt .mv [.t 29], none⟩])
      (.ret))
    (.skip)))
    (.seq (.reg [⟨some 31, .lt .mv [.t 1], none⟩,
        ⟨some 32, .lt .mv [.t 2], none⟩,
        ⟨some 33, .callf 10 [.t 31, .t 32], none⟩,
        ⟨some 30, .lt .mv [.t 33], none⟩,
        ⟨some 34, .lt (.ext 0) [.t 30], none⟩,
        ⟨some 35, .lt (.ext 1) [.t 30], none⟩,
        ⟨some 9, .lt .mv [.t 34], none⟩,
        ⟨some 10, .lt .mv [.t 35], none⟩])
    (.seq (.reg [⟨some 37, .lt (.ld true 7) [.t 3], none⟩,
        ⟨some 38, .lt .mv [.t 9], none⟩,
        ⟨some 39, .lt .mv [.t 2], none⟩,
        ⟨some 40, .callf 9 [.t 37, .t 38, .t 39, .c (.i .i64 3)], none⟩,
        ⟨some 36, .lt .mv [.t 40], none⟩,
        ⟨some 41, .lt (.ext 0) [.t 36], none⟩,
        ⟨some 42, .lt (.ext 1) [.t 36], none⟩,
        ⟨some 11, .lt .mv [.t 41], none⟩,
        ⟨some 12, .lt .mv [.t 42], none⟩])
    (.seq (.reg [⟨some 44, .lt (.ld true 7) [.t 3], none⟩,
        ⟨some 45, .lt .mv [.t 1], none⟩,
        ⟨some 46, .lt .mv [.t 9], none⟩,
        ⟨some 47, .lt .mv [.t 2], none⟩,
        ⟨some 48, .lt .mv [.t 2], none⟩,
        ⟨some 49, .callf 6 [.t 44, .t 45, .t 46, .t 47, .t 48], none⟩,
        ⟨some 43, .lt .mv [.t 49], none⟩,
        ⟨some 50, .lt (.ext 0) [.t 43], none⟩,
        ⟨some 51, .lt (.ext 1) [.t 43], none⟩,
        ⟨some 13, .lt .mv [.t 50], none⟩,
        ⟨some 14, .lt .mv [.t 51], none⟩])
    (.seq (.reg [⟨some 52, .lt .mv [.t 10], none⟩,
        ⟨some 53, .lt (.bin .eql) [.t 52, .c (.i .i64 0)], none⟩,
        ⟨some 54, .lt .mv [.t 53], none⟩,
        ⟨some 55, .lt .mv [.t 12], some (54, true)⟩,
        ⟨some 56, .callf 8 [.t 55], some (54, true)⟩,
        ⟨some 57, .lt (.bin .eql) [.t 56, .c (.i .i64 0)], some (54, true)⟩,
        ⟨some 58, .lt .pick [.t 54, .t 57, .c (.b false)], none⟩,
        ⟨some 59, .lt .mv [.t 58], none⟩,
        ⟨some 60, .lt .mv [.t 7], some (59, true)⟩,
        ⟨some 61, .lt .mv [.t 11], some (59, true)⟩,
        ⟨some 62, .callf 11 [.t 60, .t 61], some (59, true)⟩,
        ⟨some 63, .lt .pick [.t 59, .t 62, .c (.b false)], none⟩,
        ⟨some 64, .lt .mv [.t 63], none⟩,
        ⟨some 65, .lt .mv [.t 13], some (64, true)⟩,
        ⟨some 66, .lt .not [.t 65], some (64, true)⟩,
        ⟨some 67, .lt .pick [.t 64, .t 66, .c (.b false)], none⟩,
        ⟨some 68, .lt .mv [.t 67], none⟩,
        ⟨some 69, .lt .mv [.t 14], some (68, true)⟩,
        ⟨some 70, .callf 8 [.t 69], some (68, true)⟩,
        ⟨some 71, .lt (.bin .eql) [.t 70, .c (.i .i64 0)], some (68, true)⟩,
        ⟨some 72, .lt .pick [.t 68, .t 71, .c (.b false)], none⟩,
        ⟨some 6, .lt .mv [.t 72], none⟩])
    (.ret))))))))
def d4 : IFunc := ⟨73, [.t 6], e4⟩
theorem c4 : compF Tryd.prog Tryd.f4 = some d4 := by kernel_rfl
/-- pinfold/pinfoldlaw20.awake -/
def e5 : ICode :=
  .seq (.reg [⟨some 0, .lt .mv [.c (.b false)], none⟩])
    (.seq (.reg [⟨some 14, .callf 7 [], none⟩,
        ⟨some 1, .lt (.new 33 [(.i .i64 0), (.i .i64 0), .sn, .sn, (.i .i64 0), (.s []), .sn]) [], none⟩,
        ⟨none, .lt (.st 7) [.t 1, .t 14], none⟩])
    (.seq (.reg [⟨some 15, .lt (.build [(.i .i64 0), (.i .i64 0), (.s []), (.i .i64 0), (.s []), (.b false)] [(0, 1), (1, 1), (2, 1), (3, 1), (4, 1), (5, 1)]) [.c (.i .i64 10), .c (.i .i64 2), .c (.s [109, 101]), .c (.i .i64 9), .c (.s [112, 99]), .c (.b true)], none⟩,
        ⟨some 16, .lt (.bsl 24 6 1 [(.i .i64 0), (.i .i64 0), (.s []), (.i .i64 0), (.s []), (.b false)] [0]) [.t 15], none⟩,
        ⟨some 2, .lt .mv [.t 16], none⟩])
    (.seq (.reg [⟨some 18, .lt (.ld true 7) [.t 1], none⟩,
        ⟨some 19, .lt .mv [.t 2], none⟩,
        ⟨some 20, .callf 9 [.t 18, .t 19, .c (.i .i64 0), .c (.i .i64 7)], none⟩,
        ⟨some 17, .lt .mv [.t 20], none⟩,
        ⟨some 21, .lt (.ext 0) [.t 17], none⟩,
        ⟨some 22, .lt (.ext 1) [.t 17], none⟩,
        ⟨some 3, .lt .mv [.t 21], none⟩,
        ⟨some 4, .lt .mv [.t 22], none⟩])
    (.seq (.reg [⟨some 24, .lt (.ld true 7) [.t 1], none⟩,
        ⟨some 25, .lt .mv [.t 2], none⟩,
        ⟨some 26, .callf 6 [.t 24, .t 25, .c .sn, .c (.i .i64 0), .c (.i .i64 0)], none⟩,
        ⟨some 23, .lt .mv [.t 26], none⟩,
        ⟨some 27, .lt (.ext 0) [.t 23], none⟩,
        ⟨some 28, .lt (.ext 1) [.t 23], none⟩,
        ⟨some 5, .lt .mv [.t 27], none⟩,
        ⟨some 6, .lt .mv [.t 28], none⟩])
    (.seq (.reg [⟨some 30, .lt (.ld true 7) [.t 1], none⟩,
        ⟨some 31, .lt .mv [.t 2], none⟩,
        ⟨some 32, .callf 6 [.t 30, .t 31, .c .sn, .c (.i .i64 9), .c (.i .i64 0)], none⟩,
        ⟨some 29, .lt .mv [.t 32], none⟩,
        ⟨some 33, .lt (.ext 0) [.t 29], none⟩,
        ⟨some 34, .lt (.ext 1) [.t 29], none⟩,
        ⟨some 7, .lt .mv [.t 33], none⟩,
        ⟨some 8, .lt .mv [.t 34], none⟩])
    (.seq (.reg [⟨some 36, .lt (.ld true 7) [.t 1], none⟩,
        ⟨some 37, .lt .mv [.t 2], none⟩,
        ⟨some 38, .callf 9 [.t 36, .t 37, .c (.i .i64 (-1)), .c (.i .i64 7)], none⟩,
        ⟨some 35, .lt .mv [.t 38], none⟩,
        ⟨some 39, .lt (.ext 0) [.t 35], none⟩,
        ⟨some 40, .lt (.ext 1) [.t 35], none⟩,
        ⟨some 9, .lt .mv [.t 39], none⟩,
        ⟨some 10, .lt .mv [.t 40], none⟩])
    (.seq (.reg [⟨some 42, .callf 12 [.c (.s [109, 101]), .c (.s [112, 99, 46, 108, 97, 110])], none⟩,
        ⟨some 41, .lt .mv [.t 42], none⟩,
        ⟨some 43, .lt (.ext 0) [.t 41], none⟩,
        ⟨some 44, .lt (.ext 1) [.t 41], none⟩,
        ⟨some 11, .lt .mv [.t 43], none⟩,
        ⟨some 12, .lt .mv [.t 44], none⟩])
    (.seq (.reg [⟨some 45, .lt (.build [(.s []), (.i .i64 0), (.i .i64 0), (.i .i64 0), (.s []), (.s []), (.i .i64 0)] [(0, 1), (1, 1), (2, 1), (4, 1), (6, 1)]) [.c (.s [108, 97, 110]), .c (.i .i64 6), .c (.i .i64 60), .c (.s [110, 115, 46, 108, 97, 110]), .c (.i .i64 7)], none⟩,
        ⟨some 46, .lt (.build [(.s []), (.i .i64 0), (.i .i64 0), (.i .i64 0), (.s []), (.s []), (.i .i64 0)] [(0, 1), (1, 1), (2, 1), (4, 1)]) [.c (.s [108, 97, 110]), .c (.i .i64 2), .c (.i .i64 60), .c (.s [110, 115, 46, 108, 97, 110])], none⟩,
        ⟨some 47, .lt (.fa 6) [.t 1], none⟩,
        ⟨some 48, .lt (.ld false 1) [.t 47], none⟩,
        ⟨some 49, .lt (.ia 7) [.t 48, .c (.i .i64 0)], none⟩,
        ⟨some 50, .lt (.ld true 7) [.t 49], none⟩,
        ⟨some 51, .lt (.build [(.s []), (.i .i64 0), (.i .i64 0), (.i .i64 0), (.s []), (.s []), (.i .i64 0)] [(0, 1), (1, 1), (2, 1), (3, 1)]) [.c (.s [112, 99, 46, 108, 97, 110]), .c (.i .i64 1), .c (.i .i64 60), .c (.i .i64 167772170)], none⟩,
        ⟨some 52, .lt .mv [.t 11], none⟩,
        ⟨some 53, .lt (.build [(.s []), (.i .i64 0), (.i .i64 0), (.i .i64 0), (.s []), (.s []), (.i .i64 0)] [(0, 1), (1, 1), (2, 1), (5, 1)]) [.c (.s [112, 99, 46, 108, 97, 110]), .c (.i .i64 49), .c (.i .i64 60), .t 52], none⟩,
        ⟨some 54, .lt (.build [(.s []), (.i .i64 0), (.i .i64 0), (.i .i64 0), (.s []), (.s []), (.i .i64 0)] [(0, 1), (1, 1), (2, 1), (4, 1)]) [.c (.s [49, 48, 46, 48, 46, 48, 46, 49, 48, 46, 105, 110, 45, 97, 100, 100, 114, 46, 97, 114, 112, 97]), .c (.i .i64 12), .c (.i .i64 60), .c (.s [112, 99, 46, 108, 97, 110])], none⟩,
        ⟨some 55, .lt (.bsl 47 7 6 [(.s []), (.i .i64 0), (.i .i64 0), (.i .i64 0), (.s []), (.s []), (.i .i64 0)] [0, 1, 2, 3, 4, 5]) [.t 45, .t 46, .t 50, .t 51, .t 53, .t 54], none⟩,
        ⟨some 13, .lt .mv [.t 55], none⟩])
    (.seq (.reg [⟨some 56, .lt .mv [.t 3], none⟩,
        ⟨some 57, .lt .mv [.t 13], none⟩,
        ⟨some 58, .callf 11 [.t 56, .t 57], none⟩,
        ⟨some 59, .lt .mv [.t 58], none⟩,
        ⟨some 60, .lt .mv [.t 4], some (59, true)⟩,
        ⟨some 61, .callf 8 [.t 60], some (59, true)⟩,
        ⟨some 62, .lt (.bin .eql) [.t 61, .c (.i .i64 0)], some (59, true)⟩,
        ⟨some 63, .lt .pick [.t 59, .t 62, .c (.b false)], none⟩,
        ⟨some 64, .lt .mv [.t 63], none⟩,
        ⟨some 65, .lt .mv [.t 5], some (64, true)⟩,
        ⟨some 66, .lt .pick [.t 64, .t 65, .c (.b false)], none⟩,
        ⟨some 67, .lt .mv [.t 66], none⟩,
        ⟨some 68, .lt .mv [.t 6], some (67, true)⟩,
        ⟨some 69, .callf 8 [.t 68], some (67, true)⟩,
        ⟨some 70, .lt (.bin .eql) [.t 69, .c (.i .i64 0)], some (67, true)⟩,
        ⟨some 71, .lt .pick [.t 67, .t 70, .c (.b false)], none⟩,
        ⟨some 72, .lt .mv [.t 71], none⟩,
        ⟨some 73, .lt .mv [.t 7], some (72, true)⟩,
        ⟨some 74, .lt .not [.t 73], some (72, true)⟩,
        ⟨some 75, .lt .pick [.t 72, .t 74, .c (.b false)], none⟩,
        ⟨some 76, .lt .mv [.t 75], none⟩,
        ⟨some 77, .lt .mv [.t 8], some (76, true)⟩,
        ⟨some 78, .callf 8 [.t 77], some (76, true)⟩,
        ⟨some 79, .lt (.bin .eql) [.t 78, .c (.i .i64 0)], some (76, true)⟩,
        ⟨some 80, .lt .pick [.t 76, .t 79, .c (.b false)], none⟩,
        ⟨some 81, .lt .mv [.t 80], none⟩,
        ⟨some 82, .lt .mv [.t 10], some (81, true)⟩,
        ⟨some 83, .callf 8 [.t 82], some (81, true)⟩,
        ⟨some 84, .lt (.bin .eql) [.t 83, .c (.i .i64 2000)], some (81, true)⟩,
        ⟨some 85, .lt .pick [.t 81, .t 84, .c (.b false)], none⟩,
        ⟨some 0, .lt .mv [.t 85], none⟩])
    (.ret))))))))))
def d5 : IFunc := ⟨86, [.t 0], e5⟩
theorem c5 : compF Tryd.prog Tryd.f5 = some d5 := by kernel_rfl
/-- pinfold/zone.Changed -/
def e6 : ICode :=
  .seq (.reg [⟨some 5, .lt (.box 33 7) [.t 0], none⟩,
        ⟨some 10, .lt .mv [.c (.b false)], none⟩,
        ⟨some 11, .lt .mv [.c (.i .i64 0)], none⟩])
    (.seq (.reg [⟨some 17, .lt (.ld true 7) [.t 5], none⟩,
        ⟨some 18, .lt .mv [.t 1], none⟩,
        ⟨some 19, .lt .mv [.t 3], none⟩,
        ⟨some 20, .callf 9 [.t 17, .t 18, .t 19, .c (.i .i64 0)], none⟩,
        ⟨some 16, .lt .mv [.t 20], none⟩,
        ⟨some 21, .lt (.ext 0) [.t 16], none⟩,
        ⟨some 22, .lt (.ext 1) [.t 16], none⟩,
        ⟨some 12, .lt .mv [.t 21], none⟩,
        ⟨some 13, .lt .mv [.t 22], none⟩])
    (.seq (.reg [⟨some 24, .lt (.ld true 7) [.t 5], none⟩,
        ⟨some 25, .lt .mv [.t 2], none⟩,
        ⟨some 26, .lt .mv [.t 4], none⟩,
        ⟨some 27, .callf 9 [.t 24, .t 25, .t 26, .c (.i .i64 0)], none⟩,
        ⟨some 23, .lt .mv [.t 27], none⟩,
        ⟨some 28, .lt (.ext 0) [.t 23], none⟩,
        ⟨some 29, .lt (.ext 1) [.t 23], none⟩,
        ⟨some 14, .lt .mv [.t 28], none⟩,
        ⟨some 15, .lt .mv [.t 29], none⟩])
    (.seq (.seq (.reg [⟨some 30, .lt .mv [.t 13], none⟩,
        ⟨some 31, .lt (.bin .neq) [.t 30, .c (.i .i64 0)], none⟩,
        ⟨some 32, .lt .mv [.t 31], none⟩,
        ⟨some 33, .lt .mv [.t 15], some (32, false)⟩,
        ⟨some 34, .lt (.bin .neq) [.t 33, .c (.i .i64 0)], some (32, false)⟩,
        ⟨some 35, .lt .pick [.t 32, .c (.b true), .t 34], none⟩])
    (.cond (.t 35) (.seq (.reg [⟨some 10, .lt .mv [.c (.b false)], none⟩,
          ⟨some 11, .lt .mv [.c (.i .i64 2000)], none⟩])
      (.ret))
    (.skip)))
    (.seq (.reg [⟨some 36, .lt .mv [.t 12], none⟩,
        ⟨some 37, .lt .mv [.t 14], none⟩,
        ⟨some 38, .callf 13 [.t 36, .t 37], none⟩,
        ⟨some 39, .lt .not [.t 38], none⟩,
        ⟨some 10, .lt .mv [.t 39], none⟩,
        ⟨some 11, .lt .mv [.c (.i .i64 0)], none⟩])
    (.ret)))))
def d6 : IFunc := ⟨40, [.t 10, .t 11], e6⟩
theorem c6 : compF Tryd.prog Tryd.f6 = some d6 := by kernel_rfl
/-- pinfold/pinfoldlaw20.given -/
def e7 : ICode :=
  .seq (.reg [⟨some 0, .lt (.new 33 [(.i .i64 0), (.i .i64 0), .sn, .sn, (.i .i64 0), (.s []), .sn]) [], none⟩])
    (.seq (.reg [⟨some 1, .lt (.bsl 3 1 1 [(.i .i64 0)] [0]) [.c (.i .i64 12)], none⟩,
        ⟨some 2, .lt (.build [(.s []), (.i .i64 0)] [(0, 1), (1, 1)]) [.c (.s [118, 105, 112]), .c (.i .i64 13)], none⟩,
        ⟨some 3, .lt (.bsl 49 2 1 [(.s []), (.i .i64 0)] [0]) [.t 2], none⟩,
        ⟨some 4, .lt (.build [(.s []), (.i .i64 0), (.i .i64 0), (.i .i64 0), (.s []), (.s []), (.i .i64 0)] [(0, 1), (1, 1), (2, 1), (3, 1)]) [.c (.s [119, 119, 119, 46, 108, 97, 110]), .c (.i .i64 1), .c (.i .i64 5), .c (.i .i64 7)], none⟩,
        ⟨some 5, .lt (.bsl 47 7 1 [(.s []), (.i .i64 0), (.i .i64 0), (.i .i64 0), (.s []), (.s []), (.i .i64 0)] [0]) [.t 4], none⟩,
        ⟨some 6, .lt (.build [(.i .i64 0), (.i .i64 0), .sn, .sn, (.i .i64 0), (.s []), .sn] [(0, 1), (1, 1), (2, 1), (3, 1), (4, 1), (5, 1), (6, 1)]) [.c (.i .i64 10), .c (.i .i64 13), .t 1, .t 3, .c (.i .i64 100), .c (.s [108, 97, 110]), .t 5], none⟩,
        ⟨none, .lt (.st 7) [.t 0, .t 6], none⟩])
    (.ret))
def d7 : IFunc := ⟨7, [.cell 0 true 7], e7⟩
theorem c7 : compF Tryd.prog Tryd.f7 = some d7 := by kernel_rfl
/-- pinfold/pinfoldlaw0.Num -/
def e8 : ICode :=
  .seq (.reg [⟨some 2, .lt .mv [.c (.i .i64 0)], none⟩])
    (.seq (.reg [⟨some 3, .lt .mv [.t 0], none⟩,
        ⟨some 2, .lt .mv [.t 3], none⟩])
    (.ret))
def d8 : IFunc := ⟨4, [.t 2], e8⟩
theorem c8 : compF Tryd.prog Tryd.f8 = some d8 := by kernel_rfl
/-- pinfold/zone.Records -/
def e9 : ICode :=
  .seq (.reg [⟨some 4, .lt (.box 33 7) [.t 0], none⟩,
        ⟨some 8, .lt .mv [.c .sn], none⟩,
        ⟨some 9, .lt .mv [.c (.i .i64 0)], none⟩])
    (.seq (.seq (.reg [⟨some 14, .lt (.ld true 7) [.t 4], none⟩,
        ⟨some 15, .callf 14 [.t 14], none⟩,
        ⟨some 16, .lt .not [.t 15], none⟩,
        ⟨some 17, .lt .mv [.t 16], none⟩,
        ⟨some 18, .lt .mv [.t 1], some (17, false)⟩,
        ⟨some 19, .callf 15 [.t 18], some (17, false)⟩,
        ⟨some 20, .lt .not [.t 19], some (17, false)⟩,
        ⟨some 21, .lt .pick [.t 17, .c (.b true), .t 20], none⟩,
        ⟨some 22, .lt .mv [.t 21], none⟩,
        ⟨some 23, .lt .mv [.t 2], some (22, false)⟩,
        ⟨some 24, .callf 16 [.t 23], some (22, false)⟩,
        ⟨some 25, .lt .not [.t 24], some (22, false)⟩,
        ⟨some 26, .lt .pick [.t 22, .c (.b true), .t 25], none⟩,
        ⟨some 27, .lt .mv [.t 26], none⟩,
        ⟨some 28, .lt .mv [.t 3], some (27, false)⟩,
        ⟨some 29, .callf 17 [.t 28], some (27, false)⟩,
        ⟨some 30, .lt .not [.t 29], some (27, false)⟩,
        ⟨some 31, .lt .pick [.t 27, .c (.b true), .t 30], none⟩])
    (.cond (.t 31) (.seq (.reg [⟨some 8, .lt .mv [.c .sn], none⟩,
          ⟨some 9, .lt .mv [.c (.i .i64 2000)], none⟩])
      (.ret))
    (.skip)))
    (.seq (.reg [⟨some 32, .lt (.ld true 7) [.t 4], none⟩,
        ⟨some 33, .callf 18 [.t 32, .c (.s [110, 115])], none⟩,
        ⟨some 10, .lt .mv [.t 33], none⟩])
    (.seq (.reg [⟨some 34, .lt (.fa 5) [.t 4], none⟩,
        ⟨some 35, .lt (.ld false 1) [.t 34], none⟩,
        ⟨some 36, .lt .mv [.t 10], none⟩,
        ⟨some 37, .lt .mv [.t 3], none⟩,
        ⟨some 38, .lt (.build [(.s []), (.i .i64 0), (.i .i64 0), (.i .i64 0), (.s []), (.s []), (.i .i64 0)] [(0, 1), (1, 1), (2, 1), (4, 1), (6, 1)]) [.t 35, .c (.i .i64 6), .c (.i .i64 60), .t 36, .t 37], none⟩,
        ⟨some 39, .lt (.fa 5) [.t 4], none⟩,
        ⟨some 40, .lt (.ld false 1) [.t 39], none⟩,
        ⟨some 41, .lt .mv [.t 10], none⟩,
        ⟨some 42, .lt (.build [(.s []), (.i .i64 0), (.i .i64 0), (.i .i64 0), (.s []), (.s []), (.i .i64 0)] [(0, 1), (1, 1), (2, 1), (4, 1)]) [.t 40, .c (.i .i64 2), .c (.i .i64 60), .t 41], none⟩,
        ⟨some 43, .lt (.bsl 47 7 2 [(.s []), (.i .i64 0), (.i .i64 0), (.i .i64 0), (.s []), (.s []), (.i .i64 0)] [0, 1]) [.t 38, .t 42], none⟩,
        ⟨some 11, .lt .mv [.t 43], none⟩])
    (.seq (.reg [⟨some 44, .lt .mv [.t 11], none⟩,
        ⟨some 45, .lt (.fa 6) [.t 4], none⟩,
        ⟨some 46, .lt (.ld false 1) [.t 45], none⟩,
        ⟨some 47, .lt (.app 47 7 80) [.t 44, .t 46], none⟩,
        ⟨some 11, .lt .mv [.t 47], none⟩])
    (.seq (.seq (.reg [⟨some 48, .lt .mv [.t 1], none⟩,
        ⟨some 49, .lt (.len false) [.t 48], none⟩,
        ⟨some 50, .lt .mv [.c (.i .i64 0)], none⟩])
    (.block 0 (.loop (.seq (.reg [⟨some 51, .lt (.bin .lss) [.t 50, .t 49], none⟩])
        (.seq (.cond (.t 51) (.skip)
        (.exit 0))
        (.seq (.block 1 (.seq (.reg [⟨some 52, .lt .mv [.t 50], none⟩,
              ⟨some 12, .lt .mv [.t 52], none⟩])
          (.seq (.reg [⟨some 53, .lt .mv [.t 1], none⟩,
              ⟨some 54, .lt .mv [.t 12], none⟩,
              ⟨some 55, .lt (.ia 6) [.t 53, .t 54], none⟩,
              ⟨some 13, .lt .mv [.t 55], none⟩])
          (.seq (.draw [⟨some 56, .lt .mv [.t 13], none⟩,
              ⟨some 57, .lt .nck [.t 56], none⟩,
              ⟨some 58, .lt (.fa 5) [.t 57], none⟩,
              ⟨some 59, .lt (.ld false 1) [.t 58], none⟩,
              ⟨some 60, .lt .mv [.t 59], none⟩,
              ⟨some 61, .lt .mv [.t 13], some (60, true)⟩,
              ⟨some 62, .lt .mv [.t 13], some (60, true)⟩,
              ⟨some 63, .lt .nck [.t 62], some (60, true)⟩,
              ⟨some 64, .lt (.fa 2) [.t 63], some (60, true)⟩,
              ⟨some 65, .lt (.ld false 1) [.t 64], some (60, true)⟩,
              ⟨some 66, .lt .mv [.t 2], some (60, true)⟩,
              ⟨some 67, .callf 19 [.t 61, .t 65, .t 66], some (60, true)⟩,
              ⟨some 68, .lt .pick [.t 60, .t 67, .c (.b false)], none⟩,
              ⟨some 69, .lt .mv [.t 68], none⟩,
              ⟨some 70, .lt (.ld true 7) [.t 4], some (69, true)⟩,
              ⟨some 71, .lt .mv [.t 13], some (69, true)⟩,
              ⟨some 72, .lt .nck [.t 71], some (69, true)⟩,
              ⟨some 73, .lt (.fa 4) [.t 72], some (69, true)⟩,
              ⟨some 74, .lt (.ld false 1) [.t 73], some (69, true)⟩,
              ⟨some 75, .callf 18 [.t 70, .t 74], some (69, true)⟩,
              ⟨some 76, .lt (.bin .neq) [.t 75, .c (.s [])], some (69, true)⟩,
              ⟨some 77, .lt .pick [.t 69, .t 76, .c (.b false)], none⟩] [0, 1, 3, 7, 15, 31, 31, 95, 223, 479, 31, 2047, 4095, 8191, 16383, 16383, 49151, 114687, 245759, 524287, 1048575, 2097151])
          (.cond (.t 77) (.reg [⟨some 78, .lt .mv [.t 11], none⟩,
                ⟨some 79, .lt .mv [.t 13], none⟩,
                ⟨some 80, .callf 20 [.t 4, .t 79], none⟩,
                ⟨some 81, .lt (.app 47 7 80) [.t 78, .t 80], none⟩,
                ⟨some 11, .lt .mv [.t 81], none⟩])
          (.skip))))))
        (.reg [⟨some 82, .lt (.bin .add) [.t 50, .c (.i .i64 1)], none⟩,
            ⟨some 50, .lt .mv [.t 82], none⟩])))))))
    (.seq (.reg [⟨some 83, .lt .mv [.t 11], none⟩,
        ⟨some 8, .lt .mv [.t 83], none⟩,
        ⟨some 9, .lt .mv [.c (.i .i64 0)], none⟩])
    (.ret)))))))
def d9 : IFunc := ⟨84, [.t 8, .t 9], e9⟩
theorem c9 : compF Tryd.prog Tryd.f9 = some d9 := by kernel_rfl
/-- pinfold/pinfoldref11.Sweep -/
def e10 : ICode :=
  .seq (.reg [⟨some 4, .lt .mv [.c .sn], none⟩,
        ⟨some 5, .lt .mv [.c (.i .i64 0)], none⟩])
    (.seq (.seq (.reg [⟨some 9, .lt .mv [.t 0], none⟩,
        ⟨some 10, .callf 21 [.t 9], none⟩,
        ⟨some 11, .lt .not [.t 10], none⟩,
        ⟨some 12, .lt .mv [.t 11], none⟩,
        ⟨some 13, .lt .mv [.t 1], some (12, false)⟩,
        ⟨some 14, .lt (.bin .lss) [.t 13, .c (.i .i64 0)], some (12, false)⟩,
        ⟨some 15, .lt .pick [.t 12, .c (.b true), .t 14], none⟩,
        ⟨some 16, .lt .mv [.t 15], none⟩,
        ⟨some 17, .lt .mv [.t 1], some (16, false)⟩,
        ⟨some 18, .lt (.bin .gtr) [.t 17, .c (.i .i64 1099511627776)], some (16, false)⟩,
        ⟨some 19, .lt .pick [.t 16, .c (.b true), .t 18], none⟩])
    (.cond (.t 19) (.seq (.reg [⟨some 4, .lt .mv [.c .sn], none⟩,
          ⟨some 5, .lt .mv [.c (.i .i64 1900)], none⟩])
      (.ret))
    (.skip)))
    (.seq (.reg [⟨some 6, .lt .mv [.c .sn], none⟩])
    (.seq (.seq (.reg [⟨some 7, .lt .mv [.c (.i .i64 0)], none⟩])
    (.block 0 (.loop (.seq (.seq (.reg [⟨some 20, .lt .mv [.t 7], none⟩,
            ⟨some 21, .lt .mv [.t 0], none⟩,
            ⟨some 22, .lt (.len false) [.t 21], none⟩,
            ⟨some 23, .lt (.bin .lss) [.t 20, .t 22], none⟩])
        (.cond (.t 23) (.skip)
        (.exit 0)))
        (.seq (.block 1 (.seq (.reg [⟨some 26, .lt .mv [.t 0], none⟩,
              ⟨some 27, .lt .mv [.t 7], none⟩,
              ⟨some 28, .lt (.ia 6) [.t 26, .t 27], none⟩,
              ⟨some 29, .lt (.ld true 6) [.t 28], none⟩,
              ⟨some 8, .lt (.new 24 [(.i .i64 0), (.i .i64 0), (.s []), (.i .i64 0), (.s []), (.b false)]) [], none⟩,
              ⟨none, .lt (.st 6) [.t 8, .t 29], none⟩])
          (.seq (.seq (.reg [⟨some 30, .lt (.fa 1) [.t 8], none⟩,
              ⟨some 31, .lt (.ld false 1) [.t 30], none⟩,
              ⟨some 32, .lt (.bin .neq) [.t 31, .c (.i .i64 0)], none⟩,
              ⟨some 33, .lt .mv [.t 32], none⟩,
              ⟨some 34, .lt (.ld true 6) [.t 8], some (33, true)⟩,
              ⟨some 35, .lt .mv [.t 1], some (33, true)⟩,
              ⟨some 36, .callf 22 [.t 34, .t 35], some (33, true)⟩,
              ⟨some 37, .lt .not [.t 36], some (33, true)⟩,
              ⟨some 38, .lt .pick [.t 33, .t 37, .c (.b false)], none⟩])
          (.cond (.t 38) (.reg [⟨some 39, .lt (.ld true 6) [.t 8], none⟩,
                ⟨some 40, .callf 23 [.t 39], none⟩,
                ⟨none, .lt (.st 6) [.t 8, .t 40], none⟩])
          (.skip)))
          (.reg [⟨some 41, .lt .mv [.t 6], none⟩,
              ⟨some 42, .lt (.ld true 6) [.t 8], none⟩,
              ⟨some 43, .lt (.bsl 24 6 1 [(.i .i64 0), (.i .i64 0), (.s []), (.i .i64 0), (.s []), (.b false)] [0]) [.t 42], none⟩,
              ⟨some 44, .lt (.app 24 6 64) [.t 41, .t 43], none⟩,
              ⟨some 6, .lt .mv [.t 44], none⟩]))))
        (.reg [⟨some 24, .lt .mv [.t 7], none⟩,
            ⟨some 25, .lt (.bin .add) [.t 24, .c (.i .i64 1)], none⟩,
            ⟨some 7, .lt .mv [.t 25], none⟩]))))))
    (.seq (.reg [⟨some 45, .lt .mv [.t 6], none⟩,
        ⟨some 4, .lt .mv [.t 45], none⟩,
        ⟨some 5, .lt .mv [.c (.i .i64 0)], none⟩])
    (.ret)))))
def d10 : IFunc := ⟨46, [.t 4, .t 5], e10⟩
theorem c10 : compF Tryd.prog Tryd.f10 = some d10 := by kernel_rfl
/-- pinfold/pinfoldlaw0.SameRRs -/
def e11 : ICode :=
  .seq (.reg [⟨some 4, .lt .mv [.c (.b false)], none⟩])
    (.seq (.seq (.reg [⟨some 6, .lt .mv [.t 0], none⟩,
        ⟨some 7, .lt (.len false) [.t 6], none⟩,
        ⟨some 8, .lt .mv [.t 1], none⟩,
        ⟨some 9, .lt (.len false) [.t 8], none⟩,
        ⟨some 10, .lt (.bin .neq) [.t 7, .t 9], none⟩])
    (.cond (.t 10) (.seq (.reg [⟨some 4, .lt .mv [.c (.b false)], none⟩])
      (.ret))
    (.skip)))
    (.seq (.seq (.reg [⟨some 5, .lt .mv [.c (.i .i64 0)], none⟩])
    (.block 0 (.loop (.seq (.seq (.reg [⟨some 11, .lt .mv [.t 5], none⟩,
            ⟨some 12, .lt .mv [.t 0], none⟩,
            ⟨some 13, .lt (.len false) [.t 12], none⟩,
            ⟨some 14, .lt (.bin .lss) [.t 11, .t 13], none⟩])
        (.cond (.t 14) (.skip)
        (.exit 0)))
        (.seq (.block 1 (.seq (.draw [⟨some 17, .lt .mv [.t 0], none⟩,
              ⟨some 18, .lt .mv [.t 5], none⟩,
              ⟨some 19, .lt (.ia 7) [.t 17, .t 18], none⟩,
              ⟨some 20, .lt (.ld true 7) [.t 19], none⟩,
              ⟨some 21, .lt .mv [.t 1], none⟩,
              ⟨some 22, .lt .mv [.t 5], none⟩,
              ⟨some 23, .lt (.ia 7) [.t 21, .t 22], none⟩,
              ⟨some 24, .lt (.ld true 7) [.t 23], none⟩,
              ⟨some 25, .lt (.eqa [.s, .i, .i, .i, .s, .s, .i] true) [.t 20, .t 24], none⟩] [0, 0, 3, 7, 0, 0, 48, 112, 255])
          (.cond (.t 25) (.seq (.reg [⟨some 4, .lt .mv [.c (.b false)], none⟩])
            (.ret))
          (.skip))))
        (.reg [⟨some 15, .lt .mv [.t 5], none⟩,
            ⟨some 16, .lt (.bin .add) [.t 15, .c (.i .i64 1)], none⟩,
            ⟨some 5, .lt .mv [.t 16], none⟩]))))))
    (.seq (.reg [⟨some 4, .lt .mv [.c (.b true)], none⟩])
    (.ret))))
def d11 : IFunc := ⟨26, [.t 4], e11⟩
theorem c11 : compF Tryd.prog Tryd.f11 = some d11 := by kernel_rfl
/-- pinfold/pinfoldref1.Dhcid -/
def e12 : ICode :=
  .seq (.reg [⟨some 4, .lt .mv [.c (.s [])], none⟩,
        ⟨some 5, .lt .mv [.c (.i .i64 0)], none⟩])
    (.seq (.seq (.reg [⟨some 9, .lt .mv [.t 0], none⟩,
        ⟨some 10, .lt (.len true) [.t 9], none⟩,
        ⟨some 11, .lt (.bin .lss) [.t 10, .c (.i .i64 1)], none⟩,
        ⟨some 12, .lt .mv [.t 11], none⟩,
        ⟨some 13, .lt .mv [.t 0], some (12, false)⟩,
        ⟨some 14, .lt (.len true) [.t 13], some (12, false)⟩,
        ⟨some 15, .lt (.bin .gtr) [.t 14, .c (.i .i64 16)], some (12, false)⟩,
        ⟨some 16, .lt .pick [.t 12, .c (.b true), .t 15], none⟩,
        ⟨some 17, .lt .mv [.t 16], none⟩,
        ⟨some 18, .lt .mv [.t 1], some (17, false)⟩,
        ⟨some 19, .callf 24 [.t 18], some (17, false)⟩,
        ⟨some 20, .lt .not [.t 19], some (17, false)⟩,
        ⟨some 21, .lt .pick [.t 17, .c (.b true), .t 20], none⟩])
    (.cond (.t 21) (.seq (.reg [⟨some 4, .lt .mv [.c (.s [])], none⟩,
          ⟨some 5, .lt .mv [.c (.i .i64 900)], none⟩])
      (.ret))
    (.skip)))
    (.seq (.reg [⟨some 6, .lt .mv [.c (.i .u32 2166136261)], none⟩])
    (.seq (.reg [⟨some 22, .lt .mv [.t 0], none⟩,
        ⟨some 23, .lt (.bin .add) [.t 22, .c (.s [0])], none⟩,
        ⟨some 24, .lt .mv [.t 1], none⟩,
        ⟨some 25, .lt (.bin .add) [.t 23, .t 24], none⟩,
        ⟨some 7, .lt .mv [.t 25], none⟩])
    (.seq (.seq (.reg [⟨some 8, .lt .mv [.c (.i .i64 0)], none⟩])
    (.block 0 (.loop (.seq (.seq (.reg [⟨some 26, .lt .mv [.t 8], none⟩,
            ⟨some 27, .lt .mv [.t 7], none⟩,
            ⟨some 28, .lt (.len true) [.t 27], none⟩,
            ⟨some 29, .lt (.bin .lss) [.t 26, .t 28], none⟩])
        (.cond (.t 29) (.skip)
        (.exit 0)))
        (.seq (.block 1 (.reg [⟨some 32, .lt .mv [.t 6], none⟩,
              ⟨some 33, .lt .mv [.t 7], none⟩,
              ⟨some 34, .lt .mv [.t 8], none⟩,
              ⟨some 35, .lt .ixs [.t 33, .t 34], none⟩,
              ⟨some 36, .lt (.cvi .u32) [.t 35], none⟩,
              ⟨some 37, .lt (.bin .xor) [.t 32, .t 36], none⟩,
              ⟨some 38, .lt (.bin .mul) [.t 37, .c (.i .u32 16777619)], none⟩,
              ⟨some 6, .lt .mv [.t 38], none⟩]))
        (.reg [⟨some 30, .lt .mv [.t 8], none⟩,
            ⟨some 31, .lt (.bin .add) [.t 30, .c (.i .i64 1)], none⟩,
            ⟨some 8, .lt .mv [.t 31], none⟩]))))))
    (.seq (.reg [⟨some 39, .lt .mv [.t 6], none⟩,
        ⟨some 40, .lt (.cvi .i64) [.t 39], none⟩,
        ⟨some 41, .callf 25 [.t 40, .c (.i .i64 4)], none⟩,
        ⟨some 42, .lt (.bin .add) [.c (.s [0, 1, 1]), .t 41], none⟩,
        ⟨some 4, .lt .mv [.t 42], none⟩,
        ⟨some 5, .lt .mv [.c (.i .i64 0)], none⟩])
    (.ret))))))
def d12 : IFunc := ⟨43, [.t 4, .t 5], e12⟩
theorem c12 : compF Tryd.prog Tryd.f12 = some d12 := by kernel_rfl
/-- slices.Equal[[]pinfold/api.RR,pinfold/api.RR] -/
def e13 : ICode :=
  .seq (.reg [⟨some 4, .lt .mv [.c (.b false)], none⟩])
    (.seq (.seq (.reg [⟨some 6, .lt .mv [.t 0], none⟩,
        ⟨some 7, .lt (.len false) [.t 6], none⟩,
        ⟨some 8, .lt .mv [.t 1], none⟩,
        ⟨some 9, .lt (.len false) [.t 8], none⟩,
        ⟨some 10, .lt (.bin .neq) [.t 7, .t 9], none⟩])
    (.cond (.t 10) (.seq (.reg [⟨some 4, .lt .mv [.c (.b false)], none⟩])
      (.ret))
    (.skip)))
    (.seq (.seq (.reg [⟨some 11, .lt .mv [.t 0], none⟩,
        ⟨some 12, .lt (.len false) [.t 11], none⟩,
        ⟨some 13, .lt .mv [.c (.i .i64 0)], none⟩])
    (.block 0 (.loop (.seq (.reg [⟨some 14, .lt (.bin .lss) [.t 13, .t 12], none⟩])
        (.seq (.cond (.t 14) (.skip)
        (.exit 0))
        (.seq (.block 1 (.seq (.reg [⟨some 15, .lt .mv [.t 13], none⟩,
              ⟨some 5, .lt .mv [.t 15], none⟩])
          (.seq (.draw [⟨some 16, .lt .mv [.t 0], none⟩,
              ⟨some 17, .lt .mv [.t 5], none⟩,
              ⟨some 18, .lt (.ia 7) [.t 16, .t 17], none⟩,
              ⟨some 19, .lt (.ld true 7) [.t 18], none⟩,
              ⟨some 20, .lt .mv [.t 1], none⟩,
              ⟨some 21, .lt .mv [.t 5], none⟩,
              ⟨some 22, .lt (.ia 7) [.t 20, .t 21], none⟩,
              ⟨some 23, .lt (.ld true 7) [.t 22], none⟩,
              ⟨some 24, .lt (.eqa [.s, .i, .i, .i, .s, .s, .i] true) [.t 19, .t 23], none⟩] [0, 0, 3, 7, 0, 0, 48, 112, 255])
          (.cond (.t 24) (.seq (.reg [⟨some 4, .lt .mv [.c (.b false)], none⟩])
            (.ret))
          (.skip)))))
        (.reg [⟨some 25, .lt (.bin .add) [.t 13, .c (.i .i64 1)], none⟩,
            ⟨some 13, .lt .mv [.t 25], none⟩])))))))
    (.seq (.reg [⟨some 4, .lt .mv [.c (.b true)], none⟩])
    (.ret))))
def d13 : IFunc := ⟨26, [.t 4], e13⟩
theorem c13 : compF Tryd.prog Tryd.f13 = some d13 := by kernel_rfl
/-- pinfold/conf.May -/
def e14 : ICode :=
  .seq (.reg [⟨some 1, .lt (.box 33 7) [.t 0], none⟩,
        ⟨some 2, .lt .mv [.c (.b false)], none⟩])
    (.seq (.reg [⟨some 5, .lt (.fa 0) [.t 1], none⟩,
        ⟨some 6, .lt (.ld false 1) [.t 5], none⟩,
        ⟨some 7, .lt (.bin .geq) [.t 6, .c (.i .i64 2)], none⟩,
        ⟨some 8, .lt .mv [.t 7], none⟩,
        ⟨some 9, .lt (.fa 0) [.t 1], some (8, true)⟩,
        ⟨some 10, .lt (.ld false 1) [.t 9], some (8, true)⟩,
        ⟨some 11, .lt (.fa 1) [.t 1], some (8, true)⟩,
        ⟨some 12, .lt (.ld false 1) [.t 11], some (8, true)⟩,
        ⟨some 13, .lt (.bin .leq) [.t 10, .t 12], some (8, true)⟩,
        ⟨some 14, .lt .pick [.t 8, .t 13, .c (.b false)], none⟩,
        ⟨some 15, .lt .mv [.t 14], none⟩,
        ⟨some 16, .lt (.fa 1) [.t 1], some (15, true)⟩,
        ⟨some 17, .lt (.ld false 1) [.t 16], some (15, true)⟩,
        ⟨some 18, .lt (.bin .leq) [.t 17, .c (.i .i64 254)], some (15, true)⟩,
        ⟨some 19, .lt .pick [.t 15, .t 18, .c (.b false)], none⟩,
        ⟨some 20, .lt .mv [.t 19], none⟩,
        ⟨some 21, .lt (.fa 1) [.t 1], some (20, true)⟩,
        ⟨some 22, .lt (.ld false 1) [.t 21], some (20, true)⟩,
        ⟨some 23, .lt (.fa 0) [.t 1], some (20, true)⟩,
        ⟨some 24, .lt (.ld false 1) [.t 23], some (20, true)⟩,
        ⟨some 25, .lt (.bin .sub) [.t 22, .t 24], some (20, true)⟩,
        ⟨some 26, .lt (.bin .lss) [.t 25, .c (.i .i64 8)], some (20, true)⟩,
        ⟨some 27, .lt .pick [.t 20, .t 26, .c (.b false)], none⟩,
        ⟨some 3, .lt .mv [.t 27], none⟩])
    (.seq (.reg [⟨some 28, .lt (.fa 5) [.t 1], none⟩,
        ⟨some 29, .lt (.ld false 1) [.t 28], none⟩,
        ⟨some 30, .lt (.bin .neq) [.t 29, .c (.s [])], none⟩,
        ⟨some 31, .lt .mv [.t 30], none⟩,
        ⟨some 32, .lt (.fa 5) [.t 1], some (31, true)⟩,
        ⟨some 33, .lt (.ld false 1) [.t 32], some (31, true)⟩,
        ⟨some 34, .callf 26 [.t 33], some (31, true)⟩,
        ⟨some 35, .lt .pick [.t 31, .t 34, .c (.b false)], none⟩,
        ⟨some 36, .lt .mv [.t 35], none⟩,
        ⟨some 37, .lt (.fa 5) [.t 1], some (36, true)⟩,
        ⟨some 38, .lt (.ld false 1) [.t 37], some (36, true)⟩,
        ⟨some 39, .callf 27 [.t 38], some (36, true)⟩,
        ⟨some 40, .lt (.len false) [.t 39], some (36, true)⟩,
        ⟨some 41, .lt (.bin .leq) [.t 40, .c (.i .i64 4)], some (36, true)⟩,
        ⟨some 42, .lt .pick [.t 36, .t 41, .c (.b false)], none⟩,
        ⟨some 4, .lt .mv [.t 42], none⟩])
    (.seq (.reg [⟨some 43, .lt .mv [.t 3], none⟩,
        ⟨some 44, .lt .mv [.t 43], none⟩,
        ⟨some 45, .lt .mv [.t 4], some (44, true)⟩,
        ⟨some 46, .lt .pick [.t 44, .t 45, .c (.b false)], none⟩,
        ⟨some 47, .lt .mv [.t 46], none⟩,
        ⟨some 48, .lt (.fa 4) [.t 1], some (47, true)⟩,
        ⟨some 49, .lt (.ld false 1) [.t 48], some (47, true)⟩,
        ⟨some 50, .lt (.bin .geq) [.t 49, .c (.i .i64 1)], some (47, true)⟩,
        ⟨some 51, .lt .pick [.t 47, .t 50, .c (.b false)], none⟩,
        ⟨some 52, .lt .mv [.t 51], none⟩,
        ⟨some 53, .lt (.fa 4) [.t 1], some (52, true)⟩,
        ⟨some 54, .lt (.ld false 1) [.t 53], some (52, true)⟩,
        ⟨some 55, .lt (.bin .leq) [.t 54, .c (.i .i64 1048576)], some (52, true)⟩,
        ⟨some 56, .lt .pick [.t 52, .t 55, .c (.b false)], none⟩,
        ⟨some 57, .lt .mv [.t 56], none⟩,
        ⟨some 58, .lt (.fa 2) [.t 1], some (57, true)⟩,
        ⟨some 59, .lt (.ld false 1) [.t 58], some (57, true)⟩,
        ⟨some 60, .callf 28 [.t 1, .t 59, .c (.i .i64 8)], some (57, true)⟩,
        ⟨some 61, .lt .pick [.t 57, .t 60, .c (.b false)], none⟩,
        ⟨some 62, .lt .mv [.t 61], none⟩,
        ⟨some 63, .callf 29 [.t 1], some (62, true)⟩,
        ⟨some 64, .lt .pick [.t 62, .t 63, .c (.b false)], none⟩,
        ⟨some 65, .lt .mv [.t 64], none⟩,
        ⟨some 66, .callf 30 [.t 1], some (65, true)⟩,
        ⟨some 67, .lt .pick [.t 65, .t 66, .c (.b false)], none⟩,
        ⟨some 2, .lt .mv [.t 67], none⟩])
    (.ret))))
def d14 : IFunc := ⟨68, [.t 2], e14⟩
theorem c14 : compF Tryd.prog Tryd.f14 = some d14 := by kernel_rfl
/-- pinfold/table.May -/
def e15 : ICode :=
  .seq (.reg [⟨some 2, .lt .mv [.c (.b false)], none⟩])
    (.seq (.seq (.reg [⟨some 5, .lt .mv [.t 0], none⟩,
        ⟨some 6, .lt (.len false) [.t 5], none⟩,
        ⟨some 7, .lt .mv [.c (.i .i64 0)], none⟩])
    (.block 0 (.loop (.seq (.reg [⟨some 8, .lt (.bin .lss) [.t 7, .t 6], none⟩])
        (.seq (.cond (.t 8) (.skip)
        (.exit 0))
        (.seq (.block 1 (.seq (.reg [⟨some 9, .lt .mv [.t 7], none⟩,
              ⟨some 10, .lt (.ia 6) [.t 5, .t 7], none⟩,
              ⟨some 11, .lt (.ld true 6) [.t 10], none⟩,
              ⟨some 4, .lt (.new 24 [(.i .i64 0), (.i .i64 0), (.s []), (.i .i64 0), (.s []), (.b false)]) [], none⟩,
              ⟨some 3, .lt .mv [.t 9], none⟩,
              ⟨none, .lt (.st 6) [.t 4, .t 11], none⟩])
          (.seq (.draw [⟨some 12, .lt (.ld true 6) [.t 4], none⟩,
              ⟨some 13, .callf 31 [.t 12], none⟩,
              ⟨some 14, .lt .not [.t 13], none⟩,
              ⟨some 15, .lt .mv [.t 14], none⟩,
              ⟨some 16, .lt .mv [.t 3], some (15, false)⟩,
              ⟨some 17, .lt (.bin .gtr) [.t 16, .c (.i .i64 0)], some (15, false)⟩,
              ⟨some 18, .lt .mv [.t 17], some (15, false)⟩,
              ⟨some 19, .lt .mv [.t 0], some (18, true)⟩,
              ⟨some 20, .lt .mv [.t 3], some (18, true)⟩,
              ⟨some 21, .lt (.bin .sub) [.t 20, .c (.i .i64 1)], some (18, true)⟩,
              ⟨some 22, .lt (.ia 6) [.t 19, .t 21], some (18, true)⟩,
              ⟨some 23, .lt (.fa 0) [.t 22], some (18, true)⟩,
              ⟨some 24, .lt (.ld false 1) [.t 23], some (18, true)⟩,
              ⟨some 25, .lt (.fa 0) [.t 4], some (18, true)⟩,
              ⟨some 26, .lt (.ld false 1) [.t 25], some (18, true)⟩,
              ⟨some 27, .lt (.bin .geq) [.t 24, .t 26], some (18, true)⟩,
              ⟨some 28, .lt .pick [.t 18, .t 27, .c (.b false)], some (15, false)⟩,
              ⟨some 29, .lt .pick [.t 15, .c (.b true), .t 28], none⟩] [0, 1, 3, 7, 15, 31, 63, 127, 127, 383, 1023, 2047, 4095, 127, 8319, 32767, 65535, 131071])
          (.cond (.t 29) (.seq (.reg [⟨some 2, .lt .mv [.c (.b false)], none⟩])
            (.ret))
          (.skip)))))
        (.reg [⟨some 30, .lt (.bin .add) [.t 7, .c (.i .i64 1)], none⟩,
            ⟨some 7, .lt .mv [.t 30], none⟩])))))))
    (.seq (.reg [⟨some 31, .lt .mv [.t 0], none⟩,
        ⟨some 32, .lt (.len false) [.t 31], none⟩,
        ⟨some 33, .lt (.bin .leq) [.t 32, .c (.i .i64 8)], none⟩,
        ⟨some 2, .lt .mv [.t 33], none⟩])
    (.ret)))
def d15 : IFunc := ⟨34, [.t 2], e15⟩
theorem c15 : compF Tryd.prog Tryd.f15 = some d15 := by kernel_rfl
/-- pinfold/lease.Time -/
def e16 : ICode :=
  .seq (.reg [⟨some 2, .lt .mv [.c (.b false)], none⟩])
    (.seq (.reg [⟨some 3, .lt .mv [.t 0], none⟩,
        ⟨some 4, .lt (.bin .geq) [.t 3, .c (.i .i64 0)], none⟩,
        ⟨some 5, .lt .mv [.t 4], none⟩,
        ⟨some 6, .lt .mv [.t 0], some (5, true)⟩,
        ⟨some 7, .lt (.bin .leq) [.t 6, .c (.i .i64 1099511627776)], some (5, true)⟩,
        ⟨some 8, .lt .pick [.t 5, .t 7, .c (.b false)], none⟩,
        ⟨some 2, .lt .mv [.t 8], none⟩])
    (.ret))
def d16 : IFunc := ⟨9, [.t 2], e16⟩
theorem c16 : compF Tryd.prog Tryd.f16 = some d16 := by kernel_rfl
/-- pinfold/serial.May -/
def e17 : ICode :=
  .seq (.reg [⟨some 2, .lt .mv [.c (.b false)], none⟩])
    (.seq (.reg [⟨some 3, .lt .mv [.t 0], none⟩,
        ⟨some 4, .lt .mv [.t 0], none⟩,
        ⟨some 5, .lt (.cvi .u32) [.t 4], none⟩,
        ⟨some 6, .lt (.cvi .i64) [.t 5], none⟩,
        ⟨some 7, .lt (.bin .eql) [.t 3, .t 6], none⟩,
        ⟨some 2, .lt .mv [.t 7], none⟩])
    (.ret))
def d17 : IFunc := ⟨8, [.t 2], e17⟩
theorem c17 : compF Tryd.prog Tryd.f17 = some d17 := by kernel_rfl
/-- pinfold/regis.Full -/
def e18 : ICode :=
  .seq (.reg [⟨some 2, .lt (.box 33 7) [.t 0], none⟩,
        ⟨some 4, .lt .mv [.c (.s [])], none⟩])
    (.seq (.reg [⟨some 7, .lt .mv [.t 1], none⟩,
        ⟨some 5, .lt .mv [.t 7], none⟩])
    (.seq (.seq (.reg [⟨some 8, .lt .mv [.t 1], none⟩,
        ⟨some 9, .callf 27 [.t 8], none⟩,
        ⟨some 6, .lt .mv [.t 9], none⟩])
    (.block 0 (.seq (.reg [⟨some 11, .lt .mv [.t 6], none⟩,
          ⟨some 12, .lt (.len false) [.t 11], none⟩,
          ⟨some 13, .lt (.bin .eql) [.t 12, .c (.i .i64 1)], none⟩,
          ⟨some 10, .lt .mv [.t 13], none⟩])
      (.cond (.t 10) (.reg [⟨some 14, .lt .mv [.t 1], none⟩,
            ⟨some 15, .lt (.bin .add) [.t 14, .c (.s [46])], none⟩,
            ⟨some 16, .lt (.fa 5) [.t 2], none⟩,
            ⟨some 17, .lt (.ld false 1) [.t 16], none⟩,
            ⟨some 18, .lt (.bin .add) [.t 15, .t 17], none⟩,
            ⟨some 5, .lt .mv [.t 18], none⟩])
      (.seq (.reg [⟨some 20, .lt .mv [.t 1], none⟩,
            ⟨some 21, .lt (.fa 5) [.t 2], none⟩,
            ⟨some 22, .lt (.ld false 1) [.t 21], none⟩,
            ⟨some 23, .lt (.bin .eql) [.t 20, .t 22], none⟩,
            ⟨some 24, .lt .mv [.t 23], none⟩,
            ⟨some 25, .lt .mv [.t 1], some (24, false)⟩,
            ⟨some 26, .lt (.fa 5) [.t 2], some (24, false)⟩,
            ⟨some 27, .lt (.ld false 1) [.t 26], some (24, false)⟩,
            ⟨some 28, .callf 32 [.t 25, .t 27], some (24, false)⟩,
            ⟨some 29, .lt .not [.t 28], some (24, false)⟩,
            ⟨some 30, .lt .pick [.t 24, .c (.b true), .t 29], none⟩,
            ⟨some 19, .lt .mv [.t 30], none⟩])
        (.cond (.t 19) (.seq (.reg [⟨some 4, .lt .mv [.c (.s [])], none⟩])
          (.ret))
        (.skip)))))))
    (.seq (.seq (.reg [⟨some 31, .lt .mv [.t 5], none⟩,
        ⟨some 32, .callf 26 [.t 31], none⟩,
        ⟨some 33, .lt .not [.t 32], none⟩,
        ⟨some 34, .lt .mv [.t 33], none⟩,
        ⟨some 35, .lt (.ld true 7) [.t 2], some (34, false)⟩,
        ⟨some 36, .callf 14 [.t 35], some (34, false)⟩,
        ⟨some 37, .lt .not [.t 36], some (34, false)⟩,
        ⟨some 38, .lt .pick [.t 34, .c (.b true), .t 37], none⟩])
    (.cond (.t 38) (.seq (.reg [⟨some 4, .lt .mv [.c (.s [])], none⟩])
      (.ret))
    (.skip)))
    (.seq (.reg [⟨some 39, .lt .mv [.t 5], none⟩,
        ⟨some 4, .lt .mv [.t 39], none⟩])
    (.ret)))))
def d18 : IFunc := ⟨40, [.t 4], e18⟩
theorem c18 : compF Tryd.prog Tryd.f18 = some d18 := by kernel_rfl
/-- pinfold/lease.Bound -/
def e19 : ICode :=
  .seq (.reg [⟨some 6, .lt .mv [.c (.b false)], none⟩])
    (.seq (.reg [⟨some 7, .lt .mv [.t 0], none⟩,
        ⟨some 8, .lt .mv [.t 1], none⟩,
        ⟨some 9, .lt .mv [.t 2], none⟩,
        ⟨some 10, .callf 33 [.t 7, .t 8, .t 9], none⟩,
        ⟨some 11, .lt .mv [.t 10], none⟩,
        ⟨some 12, .lt .mv [.t 0], some (11, true)⟩,
        ⟨some 13, .lt .nck [.t 12], some (11, true)⟩,
        ⟨some 14, .lt (.fa 1) [.t 13], some (11, true)⟩,
        ⟨some 15, .lt (.ld false 1) [.t 14], some (11, true)⟩,
        ⟨some 16, .lt (.bin .eql) [.t 15, .c (.i .i64 2)], some (11, true)⟩,
        ⟨some 17, .lt .pick [.t 11, .t 16, .c (.b false)], none⟩,
        ⟨some 6, .lt .mv [.t 17], none⟩])
    (.ret))
def d19 : IFunc := ⟨18, [.t 6], e19⟩
theorem c19 : compF Tryd.prog Tryd.f19 = some d19 := by kernel_rfl
/-- pinfold/zone.lent -/
def e20 : ICode :=
  .seq (.reg [⟨some 4, .lt .mv [.c .sn], none⟩])
    (.seq (.draw [⟨some 10, .lt .mv [.t 0], none⟩,
        ⟨some 11, .lt .nck [.t 10], none⟩,
        ⟨some 12, .lt (.ld true 7) [.t 11], none⟩,
        ⟨some 13, .lt .mv [.t 1], none⟩,
        ⟨some 14, .lt .nck [.t 13], none⟩,
        ⟨some 15, .lt (.fa 4) [.t 14], none⟩,
        ⟨some 16, .lt (.ld false 1) [.t 15], none⟩,
        ⟨some 17, .callf 18 [.t 12, .t 16], none⟩,
        ⟨some 5, .lt .mv [.t 17], none⟩] [0, 1, 3, 0, 8, 24, 56, 127, 255])
    (.seq (.reg [⟨some 19, .lt .mv [.t 1], none⟩,
        ⟨some 20, .lt .nck [.t 19], none⟩,
        ⟨some 21, .lt (.fa 0) [.t 20], none⟩,
        ⟨some 22, .lt (.ld false 1) [.t 21], none⟩,
        ⟨some 23, .callf 34 [.t 22], none⟩,
        ⟨some 18, .lt .mv [.t 23], none⟩,
        ⟨some 24, .lt (.ext 0) [.t 18], none⟩,
        ⟨some 25, .lt (.ext 1) [.t 18], none⟩,
        ⟨some 6, .lt .mv [.t 24], none⟩,
        ⟨some 7, .lt .mv [.t 25], none⟩])
    (.seq (.reg [⟨some 27, .lt .mv [.t 1], none⟩,
        ⟨some 28, .lt .nck [.t 27], none⟩,
        ⟨some 29, .lt (.fa 2) [.t 28], none⟩,
        ⟨some 30, .lt (.ld false 1) [.t 29], none⟩,
        ⟨some 31, .lt .mv [.t 5], none⟩,
        ⟨some 32, .callf 35 [.t 30, .t 31], none⟩,
        ⟨some 26, .lt .mv [.t 32], none⟩,
        ⟨some 33, .lt (.ext 0) [.t 26], none⟩,
        ⟨some 34, .lt (.ext 1) [.t 26], none⟩,
        ⟨some 8, .lt .mv [.t 33], none⟩,
        ⟨some 9, .lt .mv [.t 34], none⟩])
    (.seq (.reg [⟨some 35, .lt .mv [.t 5], none⟩,
        ⟨some 36, .lt .mv [.t 6], none⟩,
        ⟨some 37, .lt (.build [(.s []), (.i .i64 0), (.i .i64 0), (.i .i64 0), (.s []), (.s []), (.i .i64 0)] [(0, 1), (1, 1), (2, 1), (3, 1)]) [.t 35, .c (.i .i64 1), .c (.i .i64 60), .t 36], none⟩,
        ⟨some 38, .lt .mv [.t 5], none⟩,
        ⟨some 39, .lt .mv [.t 8], none⟩,
        ⟨some 40, .lt (.build [(.s []), (.i .i64 0), (.i .i64 0), (.i .i64 0), (.s []), (.s []), (.i .i64 0)] [(0, 1), (1, 1), (2, 1), (5, 1)]) [.t 38, .c (.i .i64 49), .c (.i .i64 60), .t 39], none⟩,
        ⟨some 41, .lt .mv [.t 1], none⟩,
        ⟨some 42, .lt .nck [.t 41], none⟩,
        ⟨some 43, .lt (.fa 0) [.t 42], none⟩,
        ⟨some 44, .lt (.ld false 1) [.t 43], none⟩,
        ⟨some 45, .callf 36 [.t 44], none⟩,
        ⟨some 46, .lt (.bin .add) [.t 45, .c (.s [46, 48, 46, 48, 46, 49, 48, 46, 105, 110, 45, 97, 100, 100, 114, 46, 97, 114, 112, 97])], none⟩,
        ⟨some 47, .lt .mv [.t 5], none⟩,
        ⟨some 48, .lt (.build [(.s []), (.i .i64 0), (.i .i64 0), (.i .i64 0), (.s []), (.s []), (.i .i64 0)] [(0, 1), (1, 1), (2, 1), (4, 1)]) [.t 46, .c (.i .i64 12), .c (.i .i64 60), .t 47], none⟩,
        ⟨some 49, .lt (.bsl 47 7 3 [(.s []), (.i .i64 0), (.i .i64 0), (.i .i64 0), (.s []), (.s []), (.i .i64 0)] [0, 1, 2]) [.t 37, .t 40, .t 48], none⟩,
        ⟨some 4, .lt .mv [.t 49], none⟩])
    (.ret)))))
def d20 : IFunc := ⟨50, [.t 4], e20⟩
theorem c20 : compF Tryd.prog Tryd.f20 = some d20 := by kernel_rfl
/-- pinfold/pinfoldref11.TableMay -/
def e21 : ICode :=
  .seq (.reg [⟨some 2, .lt .mv [.c (.b false)], none⟩])
    (.seq (.seq (.reg [⟨some 3, .lt .mv [.c (.i .i64 0)], none⟩])
    (.block 0 (.loop (.seq (.seq (.reg [⟨some 4, .lt .mv [.t 3], none⟩,
            ⟨some 5, .lt .mv [.t 0], none⟩,
            ⟨some 6, .lt (.len false) [.t 5], none⟩,
            ⟨some 7, .lt (.bin .lss) [.t 4, .t 6], none⟩])
        (.cond (.t 7) (.skip)
        (.exit 0)))
        (.seq (.block 1 (.seq (.draw [⟨some 10, .lt .mv [.t 0], none⟩,
              ⟨some 11, .lt .mv [.t 3], none⟩,
              ⟨some 12, .lt (.ia 6) [.t 10, .t 11], none⟩,
              ⟨some 13, .lt (.ld true 6) [.t 12], none⟩,
              ⟨some 14, .callf 37 [.t 13], none⟩,
              ⟨some 15, .lt .not [.t 14], none⟩,
              ⟨some 16, .lt .mv [.t 15], none⟩,
              ⟨some 17, .lt .mv [.t 3], some (16, false)⟩,
              ⟨some 18, .lt (.bin .gtr) [.t 17, .c (.i .i64 0)], some (16, false)⟩,
              ⟨some 19, .lt .mv [.t 18], some (16, false)⟩,
              ⟨some 20, .lt .mv [.t 0], some (19, true)⟩,
              ⟨some 21, .lt .mv [.t 3], some (19, true)⟩,
              ⟨some 22, .lt (.ia 6) [.t 20, .t 21], some (19, true)⟩,
              ⟨some 23, .lt (.fa 0) [.t 22], some (19, true)⟩,
              ⟨some 24, .lt (.ld false 1) [.t 23], some (19, true)⟩,
              ⟨some 25, .lt .mv [.t 0], some (19, true)⟩,
              ⟨some 26, .lt .mv [.t 3], some (19, true)⟩,
              ⟨some 27, .lt (.bin .sub) [.t 26, .c (.i .i64 1)], some (19, true)⟩,
              ⟨some 28, .lt (.ia 6) [.t 25, .t 27], some (19, true)⟩,
              ⟨some 29, .lt (.fa 0) [.t 28], some (19, true)⟩,
              ⟨some 30, .lt (.ld false 1) [.t 29], some (19, true)⟩,
              ⟨some 31, .lt (.bin .leq) [.t 24, .t 30], some (19, true)⟩,
              ⟨some 32, .lt .pick [.t 19, .t 31, .c (.b false)], some (16, false)⟩,
              ⟨some 33, .lt .pick [.t 16, .c (.b true), .t 32], none⟩] [0, 0, 3, 7, 15, 31, 63, 127, 255, 511, 1023, 1023, 4095, 8191, 16383, 1023, 1023, 66559, 230399, 492543, 1016831, 2097151, 4194303, 8388607])
          (.cond (.t 33) (.seq (.reg [⟨some 2, .lt .mv [.c (.b false)], none⟩])
            (.ret))
          (.skip))))
        (.reg [⟨some 8, .lt .mv [.t 3], none⟩,
            ⟨some 9, .lt (.bin .add) [.t 8, .c (.i .i64 1)], none⟩,
            ⟨some 3, .lt .mv [.t 9], none⟩]))))))
    (.seq (.reg [⟨some 34, .lt .mv [.t 0], none⟩,
        ⟨some 35, .lt (.len false) [.t 34], none⟩,
        ⟨some 36, .lt (.bin .leq) [.t 35, .c (.i .i64 8)], none⟩,
        ⟨some 2, .lt .mv [.t 36], none⟩])
    (.ret)))
def d21 : IFunc := ⟨37, [.t 2], e21⟩
theorem c21 : compF Tryd.prog Tryd.f21 = some d21 := by kernel_rfl
/-- pinfold/pinfoldref11.Live -/
def e22 : ICode :=
  .seq (.reg [⟨some 2, .lt (.box 24 6) [.t 0], none⟩,
        ⟨some 4, .lt .mv [.c (.b false)], none⟩])
    (.seq (.reg [⟨some 5, .lt (.ld true 6) [.t 2], none⟩,
        ⟨some 6, .callf 37 [.t 5], none⟩,
        ⟨some 7, .lt .mv [.t 6], none⟩,
        ⟨some 8, .lt (.fa 1) [.t 2], some (7, true)⟩,
        ⟨some 9, .lt (.ld false 1) [.t 8], some (7, true)⟩,
        ⟨some 10, .lt (.bin .neq) [.t 9, .c (.i .i64 0)], some (7, true)⟩,
        ⟨some 11, .lt .pick [.t 7, .t 10, .c (.b false)], none⟩,
        ⟨some 12, .lt .mv [.t 11], none⟩,
        ⟨some 13, .lt (.fa 3) [.t 2], some (12, true)⟩,
        ⟨some 14, .lt (.ld false 1) [.t 13], some (12, true)⟩,
        ⟨some 15, .lt .mv [.t 1], some (12, true)⟩,
        ⟨some 16, .lt (.bin .gtr) [.t 14, .t 15], some (12, true)⟩,
        ⟨some 17, .lt .pick [.t 12, .t 16, .c (.b false)], none⟩,
        ⟨some 4, .lt .mv [.t 17], none⟩])
    (.ret))
def d22 : IFunc := ⟨18, [.t 4], e22⟩
theorem c22 : compF Tryd.prog Tryd.f22 = some d22 := by kernel_rfl
/-- pinfold/pinfoldref11.let -/
def e23 : ICode :=
  .seq (.reg [⟨some 1, .lt (.box 24 6) [.t 0], none⟩,
        ⟨some 2, .lt (.new 24 [(.i .i64 0), (.i .i64 0), (.s []), (.i .i64 0), (.s []), (.b false)]) [], none⟩])
    (.seq (.reg [⟨some 3, .lt (.fa 0) [.t 1], none⟩,
        ⟨some 4, .lt (.ld false 1) [.t 3], none⟩,
        ⟨some 5, .lt (.fa 2) [.t 1], none⟩,
        ⟨some 6, .lt (.ld false 1) [.t 5], none⟩,
        ⟨some 7, .lt (.fa 3) [.t 1], none⟩,
        ⟨some 8, .lt (.ld false 1) [.t 7], none⟩,
        ⟨some 9, .lt (.build [(.i .i64 0), (.i .i64 0), (.s []), (.i .i64 0), (.s []), (.b false)] [(0, 1), (2, 1), (3, 1)]) [.t 4, .t 6, .t 8], none⟩,
        ⟨none, .lt (.st 6) [.t 2, .t 9], none⟩])
    (.ret))
def d23 : IFunc := ⟨10, [.cell 2 true 6], e23⟩
theorem c23 : compF Tryd.prog Tryd.f23 = some d23 := by kernel_rfl
/-- pinfold/pinfoldref1.NameMay -/
def e24 : ICode :=
  .seq (.reg [⟨some 2, .lt .mv [.c (.b false)], none⟩])
    (.seq (.seq (.reg [⟨some 5, .lt .mv [.t 0], none⟩,
        ⟨some 6, .lt (.bin .eql) [.t 5, .c (.s [])], none⟩])
    (.cond (.t 6) (.seq (.reg [⟨some 2, .lt .mv [.c (.b true)], none⟩])
      (.ret))
    (.skip)))
    (.seq (.reg [⟨some 7, .lt .mv [.t 0], none⟩,
        ⟨some 8, .callf 38 [.t 7], none⟩,
        ⟨some 3, .lt .mv [.t 8], none⟩])
    (.seq (.seq (.reg [⟨some 4, .lt .mv [.c (.i .i64 0)], none⟩])
    (.block 0 (.loop (.seq (.seq (.reg [⟨some 9, .lt .mv [.t 4], none⟩,
            ⟨some 10, .lt .mv [.t 3], none⟩,
            ⟨some 11, .lt (.len false) [.t 10], none⟩,
            ⟨some 12, .lt (.bin .lss) [.t 9, .t 11], none⟩])
        (.cond (.t 12) (.skip)
        (.exit 0)))
        (.seq (.block 1 (.seq (.reg [⟨some 15, .lt .mv [.t 3], none⟩,
              ⟨some 16, .lt .mv [.t 4], none⟩,
              ⟨some 17, .lt (.ia 1) [.t 15, .t 16], none⟩,
              ⟨some 18, .lt (.ld false 1) [.t 17], none⟩,
              ⟨some 19, .callf 39 [.t 18], none⟩,
              ⟨some 20, .lt .not [.t 19], none⟩])
          (.cond (.t 20) (.seq (.reg [⟨some 2, .lt .mv [.c (.b false)], none⟩])
            (.ret))
          (.skip))))
        (.reg [⟨some 13, .lt .mv [.t 4], none⟩,
            ⟨some 14, .lt (.bin .add) [.t 13, .c (.i .i64 1)], none⟩,
            ⟨some 4, .lt .mv [.t 14], none⟩]))))))
    (.seq (.reg [⟨some 21, .lt .mv [.t 3], none⟩,
        ⟨some 22, .lt (.len false) [.t 21], none⟩,
        ⟨some 23, .lt (.bin .leq) [.t 22, .c (.i .i64 8)], none⟩,
        ⟨some 2, .lt .mv [.t 23], none⟩])
    (.ret)))))
def d24 : IFunc := ⟨24, [.t 2], e24⟩
theorem c24 : compF Tryd.prog Tryd.f24 = some d24 := by kernel_rfl
/-- pinfold/pinfoldref1.Num -/
def e25 : ICode :=
  .seq (.reg [⟨some 4, .lt .mv [.c (.s [])], none⟩])
    (.seq (.reg [⟨some 5, .lt .mv [.c .sn], none⟩])
    (.seq (.seq (.reg [⟨some 7, .lt .mv [.t 1], none⟩,
        ⟨some 8, .lt (.bin .sub) [.t 7, .c (.i .i64 1)], none⟩,
        ⟨some 6, .lt .mv [.t 8], none⟩])
    (.block 0 (.loop (.seq (.seq (.reg [⟨some 9, .lt .mv [.t 6], none⟩,
            ⟨some 10, .lt (.bin .geq) [.t 9, .c (.i .i64 0)], none⟩])
        (.cond (.t 10) (.skip)
        (.exit 0)))
        (.seq (.block 1 (.reg [⟨some 13, .lt .mv [.t 5], none⟩,
              ⟨some 14, .lt .mv [.t 0], none⟩,
              ⟨some 15, .lt .mv [.t 6], none⟩,
              ⟨some 16, .lt (.bin .mul) [.c (.i .i64 8), .t 15], none⟩,
              ⟨some 17, .lt (.bin .shr) [.t 14, .t 16], none⟩,
              ⟨some 18, .lt (.cvi .u8) [.t 17], none⟩,
              ⟨some 19, .lt (.bsl 5 1 1 [(.i .u8 0)] [0]) [.t 18], none⟩,
              ⟨some 20, .lt (.app 5 1 1) [.t 13, .t 19], none⟩,
              ⟨some 5, .lt .mv [.t 20], none⟩]))
        (.reg [⟨some 11, .lt .mv [.t 6], none⟩,
            ⟨some 12, .lt (.bin .sub) [.t 11, .c (.i .i64 1)], none⟩,
            ⟨some 6, .lt .mv [.t 12], none⟩]))))))
    (.seq (.reg [⟨some 21, .lt .mv [.t 5], none⟩,
        ⟨some 22, .lt .cvs [.t 21], none⟩,
        ⟨some 4, .lt .mv [.t 22], none⟩])
    (.ret))))
def d25 : IFunc := ⟨23, [.t 4], e25⟩
theorem c25 : compF Tryd.prog Tryd.f25 = some d25 := by kernel_rfl
/-- pinfold/name.May -/
def e26 : ICode :=
  .seq (.reg [⟨some 2, .lt .mv [.c (.b false)], none⟩])
    (.seq (.reg [⟨some 3, .lt .mv [.c (.i .i64 0)], none⟩])
    (.seq (.seq (.reg [⟨some 9, .lt .mv [.t 0], none⟩,
        ⟨some 10, .lt .mv [.t 0], none⟩,
        ⟨some 11, .lt (.bin .neq) [.t 10, .c (.s [])], none⟩,
        ⟨some 4, .lt .mv [.t 9], none⟩,
        ⟨some 5, .lt .mv [.t 11], none⟩])
    (.block 0 (.loop (.seq (.seq (.reg [⟨some 12, .lt .mv [.t 5], none⟩])
        (.cond (.t 12) (.skip)
        (.exit 0)))
        (.block 1 (.seq (.reg [⟨some 14, .lt .mv [.t 4], none⟩,
              ⟨some 15, .callf 40 [.t 14, .c (.s [46])], none⟩,
              ⟨some 13, .lt .mv [.t 15], none⟩,
              ⟨some 16, .lt (.ext 0) [.t 13], none⟩,
              ⟨some 17, .lt (.ext 1) [.t 13], none⟩,
              ⟨some 18, .lt (.ext 2) [.t 13], none⟩,
              ⟨some 6, .lt .mv [.t 16], none⟩,
              ⟨some 7, .lt .mv [.t 17], none⟩,
              ⟨some 8, .lt .mv [.t 18], none⟩])
          (.seq (.seq (.reg [⟨some 19, .lt .mv [.t 3], none⟩,
              ⟨some 20, .lt (.bin .add) [.t 19, .c (.i .i64 1)], none⟩,
              ⟨some 3, .lt .mv [.t 20], none⟩])
          (.seq (.reg [⟨some 21, .lt .mv [.t 6], none⟩,
              ⟨some 22, .callf 41 [.t 21], none⟩,
              ⟨some 23, .lt .not [.t 22], none⟩,
              ⟨some 24, .lt .mv [.t 23], none⟩,
              ⟨some 25, .lt .mv [.t 3], some (24, false)⟩,
              ⟨some 26, .lt (.bin .gtr) [.t 25, .c (.i .i64 8)], some (24, false)⟩,
              ⟨some 27, .lt .pick [.t 24, .c (.b true), .t 26], none⟩])
          (.cond (.t 27) (.seq (.reg [⟨some 2, .lt .mv [.c (.b false)], none⟩])
            (.ret))
          (.skip))))
          (.reg [⟨some 28, .lt .mv [.t 7], none⟩,
              ⟨some 29, .lt .mv [.t 8], none⟩,
              ⟨some 4, .lt .mv [.t 28], none⟩,
              ⟨some 5, .lt .mv [.t 29], none⟩]))))))))
    (.seq (.reg [⟨some 2, .lt .mv [.c (.b true)], none⟩])
    (.ret))))
def d26 : IFunc := ⟨30, [.t 2], e26⟩
theorem c26 : compF Tryd.prog Tryd.f26 = some d26 := by kernel_rfl
/-- pinfold/name.Labels -/
def e27 : ICode :=
  .seq (.reg [⟨some 2, .lt .mv [.c .sn], none⟩])
    (.seq (.seq (.reg [⟨some 3, .lt .mv [.t 0], none⟩,
        ⟨some 4, .lt (.bin .eql) [.t 3, .c (.s [])], none⟩,
        ⟨some 5, .lt .mv [.t 4], none⟩,
        ⟨some 6, .lt .mv [.t 0], some (5, false)⟩,
        ⟨some 7, .callf 26 [.t 6], some (5, false)⟩,
        ⟨some 8, .lt .not [.t 7], some (5, false)⟩,
        ⟨some 9, .lt .pick [.t 5, .c (.b true), .t 8], none⟩])
    (.cond (.t 9) (.seq (.reg [⟨some 2, .lt .mv [.c .sn], none⟩])
      (.ret))
    (.skip)))
    (.seq (.reg [⟨some 10, .lt .mv [.t 0], none⟩,
        ⟨some 11, .callf 42 [.t 10, .c (.s [46])], none⟩,
        ⟨some 2, .lt .mv [.t 11], none⟩])
    (.ret)))
def d27 : IFunc := ⟨12, [.t 2], e27⟩
theorem c27 : compF Tryd.prog Tryd.f27 = some d27 := by kernel_rfl
/-- pinfold/conf.hosts -/
def e28 : ICode :=
  .seq (.reg [⟨some 6, .lt .mv [.c (.b false)], none⟩])
    (.seq (.reg [⟨some 10, .lt .mkm [], none⟩,
        ⟨some 7, .lt .mv [.t 10], none⟩])
    (.seq (.seq (.reg [⟨some 11, .lt .mv [.t 1], none⟩,
        ⟨some 12, .lt (.len false) [.t 11], none⟩,
        ⟨some 13, .lt .mv [.c (.i .i64 0)], none⟩])
    (.block 0 (.loop (.seq (.reg [⟨some 14, .lt (.bin .lss) [.t 13, .t 12], none⟩])
        (.seq (.cond (.t 14) (.skip)
        (.exit 0))
        (.seq (.block 1 (.seq (.reg [⟨some 15, .lt (.ia 1) [.t 11, .t 13], none⟩,
              ⟨some 16, .lt (.ld false 1) [.t 15], none⟩,
              ⟨some 9, .lt .mv [.t 16], none⟩])
          (.seq (.seq (.reg [⟨some 17, .lt .mv [.t 9], none⟩,
              ⟨some 18, .lt .mv [.t 0], none⟩,
              ⟨some 19, .lt .nck [.t 18], none⟩,
              ⟨some 20, .lt (.fa 0) [.t 19], none⟩,
              ⟨some 21, .lt (.ld false 1) [.t 20], none⟩,
              ⟨some 22, .lt (.bin .lss) [.t 17, .t 21], none⟩,
              ⟨some 23, .lt .mv [.t 22], none⟩,
              ⟨some 24, .lt .mv [.t 9], some (23, false)⟩,
              ⟨some 25, .lt .mv [.t 0], some (23, false)⟩,
              ⟨some 26, .lt .nck [.t 25], some (23, false)⟩,
              ⟨some 27, .lt (.fa 1) [.t 26], some (23, false)⟩,
              ⟨some 28, .lt (.ld false 1) [.t 27], some (23, false)⟩,
              ⟨some 29, .lt (.bin .gtr) [.t 24, .t 28], some (23, false)⟩,
              ⟨some 30, .lt .pick [.t 23, .c (.b true), .t 29], none⟩,
              ⟨some 31, .lt .mv [.t 30], none⟩,
              ⟨some 32, .lt .mv [.t 7], some (31, false)⟩,
              ⟨some 33, .lt .mv [.t 9], some (31, false)⟩,
              ⟨some 34, .lt (.look .i (.b false) false) [.t 32, .t 33], some (31, false)⟩,
              ⟨some 35, .lt .pick [.t 31, .c (.b true), .t 34], none⟩])
          (.cond (.t 35) (.seq (.reg [⟨some 6, .lt .mv [.c (.b false)], none⟩])
            (.ret))
          (.skip)))
          (.reg [⟨some 36, .lt .mv [.t 7], none⟩,
              ⟨some 37, .lt .mv [.t 9], none⟩,
              ⟨none, .lt (.mup .i) [.t 36, .t 37, .c (.b true)], none⟩]))))
        (.reg [⟨some 38, .lt (.bin .add) [.t 13, .c (.i .i64 1)], none⟩,
            ⟨some 13, .lt .mv [.t 38], none⟩])))))))
    (.seq (.reg [⟨some 39, .lt .mv [.t 1], none⟩,
        ⟨some 40, .lt (.len false) [.t 39], none⟩,
        ⟨some 41, .lt .mv [.t 2], none⟩,
        ⟨some 42, .lt (.bin .leq) [.t 40, .t 41], none⟩,
        ⟨some 6, .lt .mv [.t 42], none⟩])
    (.ret))))
def d28 : IFunc := ⟨43, [.t 6], e28⟩
theorem c28 : compF Tryd.prog Tryd.f28 = some d28 := by kernel_rfl
/-- pinfold/conf.reserved -/
def e29 : ICode :=
  .seq (.reg [⟨some 2, .lt .mv [.c (.b false)], none⟩])
    (.seq (.reg [⟨some 3, .lt .mv [.c .sn], none⟩])
    (.seq (.reg [⟨some 7, .lt .mkm [], none⟩,
        ⟨some 4, .lt .mv [.t 7], none⟩])
    (.seq (.seq (.reg [⟨some 8, .lt .mv [.t 0], none⟩,
        ⟨some 9, .lt .nck [.t 8], none⟩,
        ⟨some 10, .lt (.fa 3) [.t 9], none⟩,
        ⟨some 11, .lt (.ld false 1) [.t 10], none⟩,
        ⟨some 12, .lt (.len false) [.t 11], none⟩,
        ⟨some 13, .lt .mv [.c (.i .i64 0)], none⟩])
    (.block 0 (.loop (.seq (.reg [⟨some 14, .lt (.bin .lss) [.t 13, .t 12], none⟩])
        (.seq (.cond (.t 14) (.skip)
        (.exit 0))
        (.seq (.block 1 (.seq (.reg [⟨some 15, .lt (.ia 2) [.t 11, .t 13], none⟩,
              ⟨some 16, .lt (.ld true 2) [.t 15], none⟩,
              ⟨some 6, .lt (.new 49 [(.s []), (.i .i64 0)]) [], none⟩,
              ⟨none, .lt (.st 2) [.t 6, .t 16], none⟩])
          (.seq (.seq (.reg [⟨some 17, .lt (.fa 0) [.t 6], none⟩,
              ⟨some 18, .lt (.ld false 1) [.t 17], none⟩,
              ⟨some 19, .callf 43 [.t 18], none⟩,
              ⟨some 20, .lt .not [.t 19], none⟩,
              ⟨some 21, .lt .mv [.t 20], none⟩,
              ⟨some 22, .lt .mv [.t 4], some (21, false)⟩,
              ⟨some 23, .lt (.fa 0) [.t 6], some (21, false)⟩,
              ⟨some 24, .lt (.ld false 1) [.t 23], some (21, false)⟩,
              ⟨some 25, .lt (.look .s (.b false) false) [.t 22, .t 24], some (21, false)⟩,
              ⟨some 26, .lt .pick [.t 21, .c (.b true), .t 25], none⟩])
          (.cond (.t 26) (.seq (.reg [⟨some 2, .lt .mv [.c (.b false)], none⟩])
            (.ret))
          (.skip)))
          (.seq (.reg [⟨some 27, .lt .mv [.t 4], none⟩,
              ⟨some 28, .lt (.fa 0) [.t 6], none⟩,
              ⟨some 29, .lt (.ld false 1) [.t 28], none⟩,
              ⟨none, .lt (.mup .s) [.t 27, .t 29, .c (.b true)], none⟩])
          (.reg [⟨some 30, .lt .mv [.t 3], none⟩,
              ⟨some 31, .lt (.fa 1) [.t 6], none⟩,
              ⟨some 32, .lt (.ld false 1) [.t 31], none⟩,
              ⟨some 33, .lt (.bsl 3 1 1 [(.i .i64 0)] [0]) [.t 32], none⟩,
              ⟨some 34, .lt (.app 3 1 8) [.t 30, .t 33], none⟩,
              ⟨some 3, .lt .mv [.t 34], none⟩])))))
        (.reg [⟨some 35, .lt (.bin .add) [.t 13, .c (.i .i64 1)], none⟩,
            ⟨some 13, .lt .mv [.t 35], none⟩])))))))
    (.seq (.reg [⟨some 36, .lt .mv [.t 0], none⟩,
        ⟨some 37, .lt .mv [.t 3], none⟩,
        ⟨some 38, .callf 28 [.t 36, .t 37, .c (.i .i64 4)], none⟩,
        ⟨some 2, .lt .mv [.t 38], none⟩])
    (.ret)))))
def d29 : IFunc := ⟨39, [.t 2], e29⟩
theorem c29 : compF Tryd.prog Tryd.f29 = some d29 := by kernel_rfl
/-- pinfold/conf.static -/
def e30 : ICode :=
  .seq (.reg [⟨some 2, .lt .mv [.c (.b false)], none⟩])
    (.seq (.seq (.reg [⟨some 5, .lt .mv [.t 0], none⟩,
        ⟨some 6, .lt .nck [.t 5], none⟩,
        ⟨some 7, .lt (.fa 6) [.t 6], none⟩,
        ⟨some 8, .lt (.ld false 1) [.t 7], none⟩,
        ⟨some 9, .lt (.len false) [.t 8], none⟩,
        ⟨some 10, .lt .mv [.c (.i .i64 0)], none⟩])
    (.block 0 (.loop (.seq (.reg [⟨some 11, .lt (.bin .lss) [.t 10, .t 9], none⟩])
        (.seq (.cond (.t 11) (.skip)
        (.exit 0))
        (.seq (.block 1 (.seq (.reg [⟨some 12, .lt (.ia 7) [.t 8, .t 10], none⟩,
              ⟨some 13, .lt (.ld true 7) [.t 12], none⟩,
              ⟨some 4, .lt (.new 47 [(.s []), (.i .i64 0), (.i .i64 0), (.i .i64 0), (.s []), (.s []), (.i .i64 0)]) [], none⟩,
              ⟨none, .lt (.st 7) [.t 4, .t 13], none⟩])
          (.seq (.draw [⟨some 14, .lt (.fa 1) [.t 4], none⟩,
              ⟨some 15, .lt (.ld false 1) [.t 14], none⟩,
              ⟨some 16, .lt (.bin .neq) [.t 15, .c (.i .i64 1)], none⟩,
              ⟨some 17, .lt .mv [.t 16], none⟩,
              ⟨some 18, .lt (.fa 1) [.t 4], some (17, true)⟩,
              ⟨some 19, .lt (.ld false 1) [.t 18], some (17, true)⟩,
              ⟨some 20, .lt (.bin .neq) [.t 19, .c (.i .i64 5)], some (17, true)⟩,
              ⟨some 21, .lt .pick [.t 17, .t 20, .c (.b false)], none⟩,
              ⟨some 22, .lt .mv [.t 21], none⟩,
              ⟨some 23, .lt (.fa 1) [.t 4], some (22, true)⟩,
              ⟨some 24, .lt (.ld false 1) [.t 23], some (22, true)⟩,
              ⟨some 25, .lt (.bin .neq) [.t 24, .c (.i .i64 16)], some (22, true)⟩,
              ⟨some 26, .lt .pick [.t 22, .t 25, .c (.b false)], none⟩,
              ⟨some 27, .lt .mv [.t 26], none⟩,
              ⟨some 28, .lt (.ld true 7) [.t 4], some (27, false)⟩,
              ⟨some 29, .callf 44 [.t 28], some (27, false)⟩,
              ⟨some 30, .lt .not [.t 29], some (27, false)⟩,
              ⟨some 31, .lt .pick [.t 27, .c (.b true), .t 30], none⟩,
              ⟨some 32, .lt .mv [.t 31], none⟩,
              ⟨some 33, .lt (.fa 0) [.t 4], some (32, false)⟩,
              ⟨some 34, .lt (.ld false 1) [.t 33], some (32, false)⟩,
              ⟨some 35, .lt .mv [.t 0], some (32, false)⟩,
              ⟨some 36, .lt .nck [.t 35], some (32, false)⟩,
              ⟨some 37, .lt (.fa 5) [.t 36], some (32, false)⟩,
              ⟨some 38, .lt (.ld false 1) [.t 37], some (32, false)⟩,
              ⟨some 39, .callf 32 [.t 34, .t 38], some (32, false)⟩,
              ⟨some 40, .lt .not [.t 39], some (32, false)⟩,
              ⟨some 41, .lt .pick [.t 32, .c (.b true), .t 40], none⟩,
              ⟨some 42, .lt .mv [.t 41], none⟩,
              ⟨some 43, .lt (.fa 0) [.t 4], some (42, false)⟩,
              ⟨some 44, .lt (.ld false 1) [.t 43], some (42, false)⟩,
              ⟨some 45, .lt .mv [.t 0], some (42, false)⟩,
              ⟨some 46, .lt .nck [.t 45], some (42, false)⟩,
              ⟨some 47, .lt (.fa 5) [.t 46], some (42, false)⟩,
              ⟨some 48, .lt (.ld false 1) [.t 47], some (42, false)⟩,
              ⟨some 49, .lt (.bin .eql) [.t 44, .t 48], some (42, false)⟩,
              ⟨some 50, .lt .pick [.t 42, .c (.b true), .t 49], none⟩] [0, 1, 3, 7, 15, 31, 63, 127, 255, 511, 1023, 2047, 4095, 8191, 16383, 32767, 65535, 131071, 262143, 524287, 1048575, 524287, 2621439, 6815743, 15204351, 33554431, 67108863, 134217727, 268435455, 536870911, 1073741823, 536870911, 2684354559, 6979321855, 15569256447, 34359738367, 68719476735])
          (.cond (.t 50) (.seq (.reg [⟨some 2, .lt .mv [.c (.b false)], none⟩])
            (.ret))
          (.skip)))))
        (.reg [⟨some 51, .lt (.bin .add) [.t 10, .c (.i .i64 1)], none⟩,
            ⟨some 10, .lt .mv [.t 51], none⟩])))))))
    (.seq (.reg [⟨some 52, .lt .mv [.t 0], none⟩,
        ⟨some 53, .lt .nck [.t 52], none⟩,
        ⟨some 54, .lt (.fa 6) [.t 53], none⟩,
        ⟨some 55, .lt (.ld false 1) [.t 54], none⟩,
        ⟨some 56, .lt (.len false) [.t 55], none⟩,
        ⟨some 57, .lt (.bin .leq) [.t 56, .c (.i .i64 8)], none⟩,
        ⟨some 2, .lt .mv [.t 57], none⟩])
    (.ret)))
def d30 : IFunc := ⟨58, [.t 2], e30⟩
theorem c30 : compF Tryd.prog Tryd.f30 = some d30 := by kernel_rfl
/-- pinfold/lease.May -/
def e31 : ICode :=
  .seq (.reg [⟨some 1, .lt (.box 24 6) [.t 0], none⟩,
        ⟨some 2, .lt .mv [.c (.b false)], none⟩])
    (.seq (.reg [⟨some 3, .lt (.fa 0) [.t 1], none⟩,
        ⟨some 4, .lt (.ld false 1) [.t 3], none⟩,
        ⟨some 5, .lt (.bin .geq) [.t 4, .c (.i .i64 2)], none⟩,
        ⟨some 6, .lt .mv [.t 5], none⟩,
        ⟨some 7, .lt (.fa 0) [.t 1], some (6, true)⟩,
        ⟨some 8, .lt (.ld false 1) [.t 7], some (6, true)⟩,
        ⟨some 9, .lt (.bin .leq) [.t 8, .c (.i .i64 254)], some (6, true)⟩,
        ⟨some 10, .lt .pick [.t 6, .t 9, .c (.b false)], none⟩,
        ⟨some 11, .lt .mv [.t 10], none⟩,
        ⟨some 12, .callf 45 [.t 1], some (11, true)⟩,
        ⟨some 13, .lt .pick [.t 11, .t 12, .c (.b false)], none⟩,
        ⟨some 14, .lt .mv [.t 13], none⟩,
        ⟨some 15, .lt (.fa 2) [.t 1], some (14, true)⟩,
        ⟨some 16, .lt (.ld false 1) [.t 15], some (14, true)⟩,
        ⟨some 17, .lt (.len true) [.t 16], some (14, true)⟩,
        ⟨some 18, .lt (.bin .leq) [.t 17, .c (.i .i64 16)], some (14, true)⟩,
        ⟨some 19, .lt .pick [.t 14, .t 18, .c (.b false)], none⟩,
        ⟨some 20, .lt .mv [.t 19], none⟩,
        ⟨some 21, .lt (.fa 3) [.t 1], some (20, true)⟩,
        ⟨some 22, .lt (.ld false 1) [.t 21], some (20, true)⟩,
        ⟨some 23, .callf 16 [.t 22], some (20, true)⟩,
        ⟨some 24, .lt .pick [.t 20, .t 23, .c (.b false)], none⟩,
        ⟨some 25, .lt .mv [.t 24], none⟩,
        ⟨some 26, .lt (.fa 4) [.t 1], some (25, true)⟩,
        ⟨some 27, .lt (.ld false 1) [.t 26], some (25, true)⟩,
        ⟨some 28, .callf 26 [.t 27], some (25, true)⟩,
        ⟨some 29, .lt .pick [.t 25, .t 28, .c (.b false)], none⟩,
        ⟨some 2, .lt .mv [.t 29], none⟩])
    (.ret))
def d31 : IFunc := ⟨30, [.t 2], e31⟩
theorem c31 : compF Tryd.prog Tryd.f31 = some d31 := by kernel_rfl
/-- pinfold/name.Under -/
def e32 : ICode :=
  .seq (.reg [⟨some 4, .lt .mv [.c (.b false)], none⟩])
    (.seq (.reg [⟨some 5, .lt .mv [.t 0], none⟩,
        ⟨some 6, .callf 26 [.t 5], none⟩,
        ⟨some 7, .lt .mv [.t 6], none⟩,
        ⟨some 8, .lt .mv [.t 1], some (7, true)⟩,
        ⟨some 9, .callf 26 [.t 8], some (7, true)⟩,
        ⟨some 10, .lt .pick [.t 7, .t 9, .c (.b false)], none⟩,
        ⟨some 11, .lt .mv [.t 10], none⟩,
        ⟨some 12, .lt .mv [.t 1], some (11, true)⟩,
        ⟨some 13, .lt (.bin .eql) [.t 12, .c (.s [])], some (11, true)⟩,
        ⟨some 14, .lt .mv [.t 13], some (11, true)⟩,
        ⟨some 15, .lt .mv [.t 0], some (14, false)⟩,
        ⟨some 16, .lt .mv [.t 1], some (14, false)⟩,
        ⟨some 17, .lt (.bin .eql) [.t 15, .t 16], some (14, false)⟩,
        ⟨some 18, .lt .pick [.t 14, .c (.b true), .t 17], some (11, true)⟩,
        ⟨some 19, .lt .mv [.t 18], some (11, true)⟩,
        ⟨some 20, .lt .mv [.t 0], some (19, false)⟩,
        ⟨some 21, .lt .mv [.t 1], some (19, false)⟩,
        ⟨some 22, .lt (.bin .add) [.c (.s [46]), .t 21], some (19, false)⟩,
        ⟨some 23, .callf 46 [.t 20, .t 22], some (19, false)⟩,
        ⟨some 24, .lt .pick [.t 19, .c (.b true), .t 23], some (11, true)⟩,
        ⟨some 25, .lt .pick [.t 11, .t 24, .c (.b false)], none⟩,
        ⟨some 4, .lt .mv [.t 25], none⟩])
    (.ret))
def d32 : IFunc := ⟨26, [.t 4], e32⟩
theorem c32 : compF Tryd.prog Tryd.f32 = some d32 := by kernel_rfl
/-- pinfold/lease.Holds -/
def e33 : ICode :=
  .seq (.reg [⟨some 6, .lt .mv [.c (.b false)], none⟩])
    (.seq (.reg [⟨some 7, .lt .mv [.t 0], none⟩,
        ⟨some 8, .lt .nck [.t 7], none⟩,
        ⟨some 9, .lt (.ld true 6) [.t 8], none⟩,
        ⟨some 10, .lt .mv [.t 2], none⟩,
        ⟨some 11, .callf 47 [.t 9, .t 10], none⟩,
        ⟨some 12, .lt .mv [.t 11], none⟩,
        ⟨some 13, .lt .mv [.t 0], some (12, true)⟩,
        ⟨some 14, .lt .nck [.t 13], some (12, true)⟩,
        ⟨some 15, .lt (.fa 1) [.t 14], some (12, true)⟩,
        ⟨some 16, .lt (.ld false 1) [.t 15], some (12, true)⟩,
        ⟨some 17, .lt (.bin .neq) [.t 16, .c (.i .i64 3)], some (12, true)⟩,
        ⟨some 18, .lt .pick [.t 12, .t 17, .c (.b false)], none⟩,
        ⟨some 19, .lt .mv [.t 18], none⟩,
        ⟨some 20, .lt .mv [.t 0], some (19, true)⟩,
        ⟨some 21, .lt .nck [.t 20], some (19, true)⟩,
        ⟨some 22, .lt (.fa 2) [.t 21], some (19, true)⟩,
        ⟨some 23, .lt (.ld false 1) [.t 22], some (19, true)⟩,
        ⟨some 24, .lt .mv [.t 1], some (19, true)⟩,
        ⟨some 25, .lt (.bin .eql) [.t 23, .t 24], some (19, true)⟩,
        ⟨some 26, .lt .pick [.t 19, .t 25, .c (.b false)], none⟩,
        ⟨some 6, .lt .mv [.t 26], none⟩])
    (.ret))
def d33 : IFunc := ⟨27, [.t 6], e33⟩
theorem c33 : compF Tryd.prog Tryd.f33 = some d33 := by kernel_rfl
/-- pinfold/conf.Address -/
def e34 : ICode :=
  .seq (.reg [⟨some 2, .lt .mv [.c (.i .i64 0)], none⟩,
        ⟨some 3, .lt .mv [.c (.i .i64 0)], none⟩])
    (.seq (.seq (.reg [⟨some 4, .lt .mv [.t 0], none⟩,
        ⟨some 5, .lt (.bin .lss) [.t 4, .c (.i .i64 1)], none⟩,
        ⟨some 6, .lt .mv [.t 5], none⟩,
        ⟨some 7, .lt .mv [.t 0], some (6, false)⟩,
        ⟨some 8, .lt (.bin .gtr) [.t 7, .c (.i .i64 254)], some (6, false)⟩,
        ⟨some 9, .lt .pick [.t 6, .c (.b true), .t 8], none⟩])
    (.cond (.t 9) (.seq (.reg [⟨some 2, .lt .mv [.c (.i .i64 0)], none⟩,
          ⟨some 3, .lt .mv [.c (.i .i64 1100)], none⟩])
      (.ret))
    (.skip)))
    (.seq (.reg [⟨some 10, .lt .mv [.t 0], none⟩,
        ⟨some 11, .lt (.bin .add) [.c (.i .i64 167772160), .t 10], none⟩,
        ⟨some 2, .lt .mv [.t 11], none⟩,
        ⟨some 3, .lt .mv [.c (.i .i64 0)], none⟩])
    (.ret)))
def d34 : IFunc := ⟨12, [.t 2, .t 3], e34⟩
theorem c34 : compF Tryd.prog Tryd.f34 = some d34 := by kernel_rfl
/-- pinfold/ident.Dhcid -/
def e35 : ICode :=
  .seq (.reg [⟨some 4, .lt .mv [.c (.s [])], none⟩,
        ⟨some 5, .lt .mv [.c (.i .i64 0)], none⟩])
    (.seq (.seq (.reg [⟨some 6, .lt .mv [.t 0], none⟩,
        ⟨some 7, .callf 43 [.t 6], none⟩,
        ⟨some 8, .lt .not [.t 7], none⟩,
        ⟨some 9, .lt .mv [.t 8], none⟩,
        ⟨some 10, .lt .mv [.t 1], some (9, false)⟩,
        ⟨some 11, .callf 26 [.t 10], some (9, false)⟩,
        ⟨some 12, .lt .not [.t 11], some (9, false)⟩,
        ⟨some 13, .lt .pick [.t 9, .c (.b true), .t 12], none⟩])
    (.cond (.t 13) (.seq (.reg [⟨some 4, .lt .mv [.c (.s [])], none⟩,
          ⟨some 5, .lt .mv [.c (.i .i64 900)], none⟩])
      (.ret))
    (.skip)))
    (.seq (.reg [⟨some 14, .lt .mv [.t 0], none⟩,
        ⟨some 15, .lt (.bin .add) [.t 14, .c (.s [0])], none⟩,
        ⟨some 16, .lt .mv [.t 1], none⟩,
        ⟨some 17, .lt (.bin .add) [.t 15, .t 16], none⟩,
        ⟨some 18, .callf 49 [.t 17], none⟩,
        ⟨some 19, .lt (.cvi .i64) [.t 18], none⟩,
        ⟨some 20, .callf 48 [.t 19, .c (.i .i64 4)], none⟩,
        ⟨some 21, .lt (.bin .add) [.c (.s [0, 1, 1]), .t 20], none⟩,
        ⟨some 4, .lt .mv [.t 21], none⟩,
        ⟨some 5, .lt .mv [.c (.i .i64 0)], none⟩])
    (.ret)))
def d35 : IFunc := ⟨22, [.t 4, .t 5], e35⟩
theorem c35 : compF Tryd.prog Tryd.f35 = some d35 := by kernel_rfl
/-- pinfold/pinfoldref11.LeaseMay -/
def e37 : ICode :=
  .seq (.reg [⟨some 1, .lt (.box 24 6) [.t 0], none⟩,
        ⟨some 2, .lt .mv [.c (.b false)], none⟩])
    (.seq (.seq (.reg [⟨some 3, .lt (.fa 0) [.t 1], none⟩,
        ⟨some 4, .lt (.ld false 1) [.t 3], none⟩,
        ⟨some 5, .lt (.bin .lss) [.t 4, .c (.i .i64 2)], none⟩,
        ⟨some 6, .lt .mv [.t 5], none⟩,
        ⟨some 7, .lt (.fa 0) [.t 1], some (6, false)⟩,
        ⟨some 8, .lt (.ld false 1) [.t 7], some (6, false)⟩,
        ⟨some 9, .lt (.bin .gtr) [.t 8, .c (.i .i64 254)], some (6, false)⟩,
        ⟨some 10, .lt .pick [.t 6, .c (.b true), .t 9], none⟩,
        ⟨some 11, .lt .mv [.t 10], none⟩,
        ⟨some 12, .lt (.fa 1) [.t 1], some (11, false)⟩,
        ⟨some 13, .lt (.ld false 1) [.t 12], some (11, false)⟩,
        ⟨some 14, .lt (.bin .lss) [.t 13, .c (.i .i64 0)], some (11, false)⟩,
        ⟨some 15, .lt .pick [.t 11, .c (.b true), .t 14], none⟩,
        ⟨some 16, .lt .mv [.t 15], none⟩,
        ⟨some 17, .lt (.fa 1) [.t 1], some (16, false)⟩,
        ⟨some 18, .lt (.ld false 1) [.t 17], some (16, false)⟩,
        ⟨some 19, .lt (.bin .gtr) [.t 18, .c (.i .i64 3)], some (16, false)⟩,
        ⟨some 20, .lt .pick [.t 16, .c (.b true), .t 19], none⟩,
        ⟨some 21, .lt .mv [.t 20], none⟩,
        ⟨some 22, .lt (.fa 2) [.t 1], some (21, false)⟩,
        ⟨some 23, .lt (.ld false 1) [.t 22], some (21, false)⟩,
        ⟨some 24, .lt (.len true) [.t 23], some (21, false)⟩,
        ⟨some 25, .lt (.bin .gtr) [.t 24, .c (.i .i64 16)], some (21, false)⟩,
        ⟨some 26, .lt .pick [.t 21, .c (.b true), .t 25], none⟩,
        ⟨some 27, .lt .mv [.t 26], none⟩,
        ⟨some 28, .lt (.fa 3) [.t 1], some (27, false)⟩,
        ⟨some 29, .lt (.ld false 1) [.t 28], some (27, false)⟩,
        ⟨some 30, .lt (.bin .lss) [.t 29, .c (.i .i64 0)], some (27, false)⟩,
        ⟨some 31, .lt .pick [.t 27, .c (.b true), .t 30], none⟩,
        ⟨some 32, .lt .mv [.t 31], none⟩,
        ⟨some 33, .lt (.fa 3) [.t 1], some (32, false)⟩,
        ⟨some 34, .lt (.ld false 1) [.t 33], some (32, false)⟩,
        ⟨some 35, .lt (.bin .gtr) [.t 34, .c (.i .i64 1099511627776)], some (32, false)⟩,
        ⟨some 36, .lt .pick [.t 32, .c (.b true), .t 35], none⟩,
        ⟨some 37, .lt .mv [.t 36], none⟩,
        ⟨some 38, .lt (.fa 4) [.t 1], some (37, false)⟩,
        ⟨some 39, .lt (.ld false 1) [.t 38], some (37, false)⟩,
        ⟨some 40, .callf 24 [.t 39], some (37, false)⟩,
        ⟨some 41, .lt .not [.t 40], some (37, false)⟩,
        ⟨some 42, .lt .pick [.t 37, .c (.b true), .t 41], none⟩])
    (.cond (.t 42) (.seq (.reg [⟨some 2, .lt .mv [.c (.b false)], none⟩])
      (.ret))
    (.skip)))
    (.seq (.seq (.reg [⟨some 43, .lt (.fa 1) [.t 1], none⟩,
        ⟨some 44, .lt (.ld false 1) [.t 43], none⟩,
        ⟨some 45, .lt (.bin .eql) [.t 44, .c (.i .i64 1)], none⟩,
        ⟨some 46, .lt .mv [.t 45], none⟩,
        ⟨some 47, .lt (.fa 1) [.t 1], some (46, false)⟩,
        ⟨some 48, .lt (.ld false 1) [.t 47], some (46, false)⟩,
        ⟨some 49, .lt (.bin .eql) [.t 48, .c (.i .i64 2)], some (46, false)⟩,
        ⟨some 50, .lt .pick [.t 46, .c (.b true), .t 49], none⟩,
        ⟨some 51, .lt .mv [.t 50], none⟩,
        ⟨some 52, .lt (.fa 2) [.t 1], some (51, true)⟩,
        ⟨some 53, .lt (.ld false 1) [.t 52], some (51, true)⟩,
        ⟨some 54, .lt (.bin .eql) [.t 53, .c (.s [])], some (51, true)⟩,
        ⟨some 55, .lt .pick [.t 51, .t 54, .c (.b false)], none⟩])
    (.cond (.t 55) (.seq (.reg [⟨some 2, .lt .mv [.c (.b false)], none⟩])
      (.ret))
    (.skip)))
    (.seq (.reg [⟨some 56, .lt (.fa 1) [.t 1], none⟩,
        ⟨some 57, .lt (.ld false 1) [.t 56], none⟩,
        ⟨some 58, .lt (.bin .eql) [.t 57, .c (.i .i64 2)], none⟩,
        ⟨some 59, .lt .mv [.t 58], none⟩,
        ⟨some 60, .lt (.fa 4) [.t 1], some (59, false)⟩,
        ⟨some 61, .lt (.ld false 1) [.t 60], some (59, false)⟩,
        ⟨some 62, .lt (.bin .eql) [.t 61, .c (.s [])], some (59, false)⟩,
        ⟨some 63, .lt .pick [.t 59, .c (.b true), .t 62], none⟩,
        ⟨some 64, .lt .mv [.t 63], none⟩,
        ⟨some 65, .lt (.fa 5) [.t 1], some (64, true)⟩,
        ⟨some 66, .lt (.ld false 1) [.t 65], some (64, true)⟩,
        ⟨some 67, .lt .not [.t 66], some (64, true)⟩,
        ⟨some 68, .lt .mv [.t 67], some (64, true)⟩,
        ⟨some 69, .lt (.fa 4) [.t 1], some (68, false)⟩,
        ⟨some 70, .lt (.ld false 1) [.t 69], some (68, false)⟩,
        ⟨some 71, .lt (.bin .neq) [.t 70, .c (.s [])], some (68, false)⟩,
        ⟨some 72, .lt .pick [.t 68, .c (.b true), .t 71], some (64, true)⟩,
        ⟨some 73, .lt .pick [.t 64, .t 72, .c (.b false)], none⟩,
        ⟨some 2, .lt .mv [.t 73], none⟩])
    (.ret))))
def d37 : IFunc := ⟨74, [.t 2], e37⟩
theorem c37 : compF Tryd.prog Tryd.f37 = some d37 := by kernel_rfl
/-- pinfold/pinfoldref1.parts -/
def e38 : ICode :=
  .seq (.reg [⟨some 2, .lt .mv [.c .sn], none⟩])
    (.seq (.reg [⟨some 3, .lt .mv [.c .sn], none⟩])
    (.seq (.reg [⟨some 4, .lt .mv [.c (.i .i64 0)], none⟩])
    (.seq (.seq (.reg [⟨some 5, .lt .mv [.c (.i .i64 0)], none⟩])
    (.block 0 (.loop (.seq (.seq (.reg [⟨some 6, .lt .mv [.t 5], none⟩,
            ⟨some 7, .lt .mv [.t 0], none⟩,
            ⟨some 8, .lt (.len true) [.t 7], none⟩,
            ⟨some 9, .lt (.bin .leq) [.t 6, .t 8], none⟩])
        (.cond (.t 9) (.skip)
        (.exit 0)))
        (.seq (.block 1 (.seq (.reg [⟨some 12, .lt .mv [.t 5], none⟩,
              ⟨some 13, .lt .mv [.t 0], none⟩,
              ⟨some 14, .lt (.len true) [.t 13], none⟩,
              ⟨some 15, .lt (.bin .eql) [.t 12, .t 14], none⟩,
              ⟨some 16, .lt .mv [.t 15], none⟩,
              ⟨some 17, .lt .mv [.t 0], some (16, false)⟩,
              ⟨some 18, .lt .mv [.t 5], some (16, false)⟩,
              ⟨some 19, .lt .ixs [.t 17, .t 18], some (16, false)⟩,
              ⟨some 20, .lt (.bin .eql) [.t 19, .c (.i .u8 46)], some (16, false)⟩,
              ⟨some 21, .lt .pick [.t 16, .c (.b true), .t 20], none⟩])
          (.cond (.t 21) (.seq (.reg [⟨some 22, .lt .mv [.t 3], none⟩,
                ⟨some 23, .lt .mv [.t 0], none⟩,
                ⟨some 24, .lt .mv [.t 4], none⟩,
                ⟨some 25, .lt .mv [.t 5], none⟩,
                ⟨some 26, .lt (.sls true true) [.t 23, .t 24, .t 25], none⟩,
                ⟨some 27, .lt (.bsl 9 1 1 [(.s [])] [0]) [.t 26], none⟩,
                ⟨some 28, .lt (.app 9 1 16) [.t 22, .t 27], none⟩,
                ⟨some 3, .lt .mv [.t 28], none⟩])
            (.reg [⟨some 29, .lt .mv [.t 5], none⟩,
                ⟨some 30, .lt (.bin .add) [.t 29, .c (.i .i64 1)], none⟩,
                ⟨some 4, .lt .mv [.t 30], none⟩]))
          (.skip))))
        (.reg [⟨some 10, .lt .mv [.t 5], none⟩,
            ⟨some 11, .lt (.bin .add) [.t 10, .c (.i .i64 1)], none⟩,
            ⟨some 5, .lt .mv [.t 11], none⟩]))))))
    (.seq (.reg [⟨some 31, .lt .mv [.t 3], none⟩,
        ⟨some 2, .lt .mv [.t 31], none⟩])
    (.ret)))))
def d38 : IFunc := ⟨32, [.t 2], e38⟩
theorem c38 : compF Tryd.prog Tryd.f38 = some d38 := by kernel_rfl
/-- pinfold/pinfoldref1.labelMay -/
def e39 : ICode :=
  .seq (.reg [⟨some 2, .lt .mv [.c (.b false)], none⟩])
    (.seq (.seq (.reg [⟨some 3, .lt .mv [.c (.i .i64 0)], none⟩])
    (.block 0 (.loop (.seq (.seq (.reg [⟨some 5, .lt .mv [.t 3], none⟩,
            ⟨some 6, .lt .mv [.t 0], none⟩,
            ⟨some 7, .lt (.len true) [.t 6], none⟩,
            ⟨some 8, .lt (.bin .lss) [.t 5, .t 7], none⟩])
        (.cond (.t 8) (.skip)
        (.exit 0)))
        (.seq (.block 1 (.seq (.reg [⟨some 11, .lt .mv [.t 0], none⟩,
              ⟨some 12, .lt .mv [.t 3], none⟩,
              ⟨some 13, .lt .ixs [.t 11, .t 12], none⟩,
              ⟨some 4, .lt .mv [.t 13], none⟩])
          (.seq (.reg [⟨some 14, .lt .mv [.t 4], none⟩,
              ⟨some 15, .lt (.bin .lss) [.t 14, .c (.i .u8 97)], none⟩,
              ⟨some 16, .lt .mv [.t 15], none⟩,
              ⟨some 17, .lt .mv [.t 4], some (16, false)⟩,
              ⟨some 18, .lt (.bin .gtr) [.t 17, .c (.i .u8 122)], some (16, false)⟩,
              ⟨some 19, .lt .pick [.t 16, .c (.b true), .t 18], none⟩,
              ⟨some 20, .lt .mv [.t 19], none⟩,
              ⟨some 21, .lt .mv [.t 4], some (20, true)⟩,
              ⟨some 22, .lt (.bin .lss) [.t 21, .c (.i .u8 48)], some (20, true)⟩,
              ⟨some 23, .lt .mv [.t 22], some (20, true)⟩,
              ⟨some 24, .lt .mv [.t 4], some (23, false)⟩,
              ⟨some 25, .lt (.bin .gtr) [.t 24, .c (.i .u8 57)], some (23, false)⟩,
              ⟨some 26, .lt .pick [.t 23, .c (.b true), .t 25], some (20, true)⟩,
              ⟨some 27, .lt .pick [.t 20, .t 26, .c (.b false)], none⟩,
              ⟨some 28, .lt .mv [.t 27], none⟩,
              ⟨some 29, .lt .mv [.t 4], some (28, true)⟩,
              ⟨some 30, .lt (.bin .neq) [.t 29, .c (.i .u8 45)], some (28, true)⟩,
              ⟨some 31, .lt .pick [.t 28, .t 30, .c (.b false)], none⟩])
          (.cond (.t 31) (.seq (.reg [⟨some 2, .lt .mv [.c (.b false)], none⟩])
            (.ret))
          (.skip)))))
        (.reg [⟨some 9, .lt .mv [.t 3], none⟩,
            ⟨some 10, .lt (.bin .add) [.t 9, .c (.i .i64 1)], none⟩,
            ⟨some 3, .lt .mv [.t 10], none⟩]))))))
    (.seq (.reg [⟨some 32, .lt .mv [.t 0], none⟩,
        ⟨some 33, .lt (.len true) [.t 32], none⟩,
        ⟨some 34, .lt (.bin .geq) [.t 33, .c (.i .i64 1)], none⟩,
        ⟨some 35, .lt .mv [.t 34], none⟩,
        ⟨some 36, .lt .mv [.t 0], some (35, true)⟩,
        ⟨some 37, .lt (.len true) [.t 36], some (35, true)⟩,
        ⟨some 38, .lt (.bin .leq) [.t 37, .c (.i .i64 8)], some (35, true)⟩,
        ⟨some 39, .lt .pick [.t 35, .t 38, .c (.b false)], none⟩,
        ⟨some 2, .lt .mv [.t 39], none⟩])
    (.ret)))
def d39 : IFunc := ⟨40, [.t 2], e39⟩
theorem c39 : compF Tryd.prog Tryd.f39 = some d39 := by kernel_rfl
/-- pinfold/name.Label -/
def e41 : ICode :=
  .seq (.reg [⟨some 2, .lt .mv [.c (.b false)], none⟩])
    (.seq (.seq (.reg [⟨some 4, .lt .mv [.t 0], none⟩,
        ⟨some 5, .lt (.len true) [.t 4], none⟩,
        ⟨some 6, .lt .mv [.c (.i .i64 0)], none⟩])
    (.block 0 (.loop (.seq (.reg [⟨some 7, .lt (.bin .lss) [.t 6, .t 5], none⟩])
        (.seq (.cond (.t 7) (.skip)
        (.exit 0))
        (.seq (.block 1 (.seq (.reg [⟨some 8, .lt .mv [.t 6], none⟩,
              ⟨some 3, .lt .mv [.t 8], none⟩])
          (.seq (.reg [⟨some 9, .lt .mv [.t 0], none⟩,
              ⟨some 10, .lt .mv [.t 3], none⟩,
              ⟨some 11, .lt .ixs [.t 9, .t 10], none⟩,
              ⟨some 12, .callf 52 [.t 11], none⟩,
              ⟨some 13, .lt .not [.t 12], none⟩])
          (.cond (.t 13) (.seq (.reg [⟨some 2, .lt .mv [.c (.b false)], none⟩])
            (.ret))
          (.skip)))))
        (.reg [⟨some 14, .lt (.bin .add) [.t 6, .c (.i .i64 1)], none⟩,
            ⟨some 6, .lt .mv [.t 14], none⟩])))))))
    (.seq (.reg [⟨some 15, .lt .mv [.t 0], none⟩,
        ⟨some 16, .lt (.len true) [.t 15], none⟩,
        ⟨some 17, .lt (.bin .geq) [.t 16, .c (.i .i64 1)], none⟩,
        ⟨some 18, .lt .mv [.t 17], none⟩,
        ⟨some 19, .lt .mv [.t 0], some (18, true)⟩,
        ⟨some 20, .lt (.len true) [.t 19], some (18, true)⟩,
        ⟨some 21, .lt (.bin .leq) [.t 20, .c (.i .i64 8)], some (18, true)⟩,
        ⟨some 22, .lt .pick [.t 18, .t 21, .c (.b false)], none⟩,
        ⟨some 2, .lt .mv [.t 22], none⟩])
    (.ret)))
def d41 : IFunc := ⟨23, [.t 2], e41⟩
theorem c41 : compF Tryd.prog Tryd.f41 = some d41 := by kernel_rfl
/-- pinfold/ident.May -/
def e43 : ICode :=
  .seq (.reg [⟨some 2, .lt .mv [.c (.b false)], none⟩])
    (.seq (.reg [⟨some 3, .lt .mv [.t 0], none⟩,
        ⟨some 4, .lt (.len true) [.t 3], none⟩,
        ⟨some 5, .lt (.bin .geq) [.t 4, .c (.i .i64 1)], none⟩,
        ⟨some 6, .lt .mv [.t 5], none⟩,
        ⟨some 7, .lt .mv [.t 0], some (6, true)⟩,
        ⟨some 8, .lt (.len true) [.t 7], some (6, true)⟩,
        ⟨some 9, .lt (.bin .leq) [.t 8, .c (.i .i64 16)], some (6, true)⟩,
        ⟨some 10, .lt .pick [.t 6, .t 9, .c (.b false)], none⟩,
        ⟨some 2, .lt .mv [.t 10], none⟩])
    (.ret))
def d43 : IFunc := ⟨11, [.t 2], e43⟩
theorem c43 : compF Tryd.prog Tryd.f43 = some d43 := by kernel_rfl
/-- pinfold/rr.May -/
def e44 : ICode :=
  .seq (.reg [⟨some 1, .lt (.box 47 7) [.t 0], none⟩,
        ⟨some 2, .lt .mv [.c (.b false)], none⟩])
    (.seq (.reg [⟨some 5, .lt (.fa 0) [.t 1], none⟩,
        ⟨some 6, .lt (.ld false 1) [.t 5], none⟩,
        ⟨some 7, .lt (.fa 1) [.t 1], none⟩,
        ⟨some 8, .lt (.ld false 1) [.t 7], none⟩,
        ⟨some 9, .lt (.fa 2) [.t 1], none⟩,
        ⟨some 10, .lt (.ld false 1) [.t 9], none⟩,
        ⟨some 11, .lt (.build [(.s []), (.i .i64 0), (.i .i64 0), (.i .i64 0), (.s []), (.s []), (.i .i64 0)] [(0, 1), (1, 1), (2, 1)]) [.t 6, .t 8, .t 10], none⟩,
        ⟨some 3, .lt (.new 47 [(.s []), (.i .i64 0), (.i .i64 0), (.i .i64 0), (.s []), (.s []), (.i .i64 0)]) [], none⟩,
        ⟨none, .lt (.st 7) [.t 3, .t 11], none⟩,
        ⟨some 4, .lt .mv [.c (.b false)], none⟩])
    (.seq (.seq (.reg [⟨some 12, .lt (.fa 1) [.t 1], none⟩,
        ⟨some 13, .lt (.ld false 1) [.t 12], none⟩])
    (.block 0 (.seq (.reg [⟨some 15, .lt (.bin .eql) [.t 13, .c (.i .i64 1)], none⟩,
          ⟨some 14, .lt .mv [.t 15], none⟩])
      (.cond (.t 14) (.draw [⟨some 16, .lt (.fa 3) [.t 1], none⟩,
            ⟨some 17, .lt (.ld false 1) [.t 16], none⟩,
            ⟨some 18, .lt (.fa 3) [.t 1], none⟩,
            ⟨some 19, .lt (.ld false 1) [.t 18], none⟩,
            ⟨some 20, .callf 54 [.t 19], none⟩,
            ⟨some 21, .lt (.fa 3) [.t 3], none⟩,
            ⟨none, .lt (.st 1) [.t 21, .t 17], none⟩,
            ⟨some 4, .lt .mv [.t 20], none⟩] [0, 1, 0, 4, 12, 3, 63, 127])
      (.seq (.seq (.reg [⟨some 23, .lt (.bin .eql) [.t 13, .c (.i .i64 2)], none⟩,
            ⟨some 22, .lt .mv [.t 23], none⟩])
        (.cond (.t 22) (.skip)
        (.seq (.reg [⟨some 24, .lt (.bin .eql) [.t 13, .c (.i .i64 5)], none⟩,
              ⟨some 22, .lt .mv [.t 24], none⟩])
          (.cond (.t 22) (.skip)
          (.reg [⟨some 25, .lt (.bin .eql) [.t 13, .c (.i .i64 12)], none⟩,
                ⟨some 22, .lt .mv [.t 25], none⟩])))))
        (.cond (.t 22) (.draw [⟨some 26, .lt (.fa 4) [.t 1], none⟩,
              ⟨some 27, .lt (.ld false 1) [.t 26], none⟩,
              ⟨some 28, .lt (.fa 4) [.t 1], none⟩,
              ⟨some 29, .lt (.ld false 1) [.t 28], none⟩,
              ⟨some 30, .callf 26 [.t 29], none⟩,
              ⟨some 31, .lt (.fa 4) [.t 3], none⟩,
              ⟨none, .lt (.st 1) [.t 31, .t 27], none⟩,
              ⟨some 4, .lt .mv [.t 30], none⟩] [0, 1, 0, 4, 12, 3, 63, 127])
        (.seq (.reg [⟨some 33, .lt (.bin .eql) [.t 13, .c (.i .i64 6)], none⟩,
              ⟨some 32, .lt .mv [.t 33], none⟩])
          (.cond (.t 32) (.draw [⟨some 34, .lt (.fa 4) [.t 1], none⟩,
                ⟨some 35, .lt (.ld false 1) [.t 34], none⟩,
                ⟨some 36, .lt (.fa 6) [.t 1], none⟩,
                ⟨some 37, .lt (.ld false 1) [.t 36], none⟩,
                ⟨some 38, .lt (.fa 4) [.t 1], none⟩,
                ⟨some 39, .lt (.ld false 1) [.t 38], none⟩,
                ⟨some 40, .callf 26 [.t 39], none⟩,
                ⟨some 41, .lt .mv [.t 40], none⟩,
                ⟨some 42, .lt (.fa 6) [.t 1], some (41, true)⟩,
                ⟨some 43, .lt (.ld false 1) [.t 42], some (41, true)⟩,
                ⟨some 44, .callf 54 [.t 43], some (41, true)⟩,
                ⟨some 45, .lt .pick [.t 41, .t 44, .c (.b false)], none⟩,
                ⟨some 46, .lt (.fa 4) [.t 3], none⟩,
                ⟨none, .lt (.st 1) [.t 46, .t 35], none⟩,
                ⟨some 47, .lt (.fa 6) [.t 3], none⟩,
                ⟨none, .lt (.st 1) [.t 47, .t 37], none⟩,
                ⟨some 4, .lt .mv [.t 45], none⟩] [0, 1, 0, 4, 0, 16, 48, 112, 240, 496, 1008, 2032, 3, 6131, 14335, 30719, 65535])
          (.seq (.seq (.reg [⟨some 49, .lt (.bin .eql) [.t 13, .c (.i .i64 16)], none⟩,
                ⟨some 48, .lt .mv [.t 49], none⟩])
            (.cond (.t 48) (.skip)
            (.reg [⟨some 50, .lt (.bin .eql) [.t 13, .c (.i .i64 49)], none⟩,
                  ⟨some 48, .lt .mv [.t 50], none⟩])))
            (.cond (.t 48) (.draw [⟨some 51, .lt (.fa 5) [.t 1], none⟩,
                  ⟨some 52, .lt (.ld false 1) [.t 51], none⟩,
                  ⟨some 53, .lt (.fa 5) [.t 1], none⟩,
                  ⟨some 54, .lt (.ld false 1) [.t 53], none⟩,
                  ⟨some 55, .lt (.len true) [.t 54], none⟩,
                  ⟨some 56, .lt (.bin .leq) [.t 55, .c (.i .i64 64)], none⟩,
                  ⟨some 57, .lt (.fa 5) [.t 3], none⟩,
                  ⟨none, .lt (.st 1) [.t 57, .t 52], none⟩,
                  ⟨some 4, .lt .mv [.t 56], none⟩] [0, 1, 0, 4, 12, 28, 3, 67, 255])
            (.skip)))))))))))
    (.seq (.reg [⟨some 58, .lt .mv [.t 4], none⟩,
        ⟨some 59, .lt .mv [.t 58], none⟩,
        ⟨some 60, .lt (.ld true 7) [.t 3], some (59, true)⟩,
        ⟨some 61, .lt (.ld true 7) [.t 1], some (59, true)⟩,
        ⟨some 62, .lt (.eqa [.s, .i, .i, .i, .s, .s, .i] false) [.t 60, .t 61], some (59, true)⟩,
        ⟨some 63, .lt .pick [.t 59, .t 62, .c (.b false)], none⟩,
        ⟨some 64, .lt .mv [.t 63], none⟩,
        ⟨some 65, .lt (.fa 0) [.t 1], some (64, true)⟩,
        ⟨some 66, .lt (.ld false 1) [.t 65], some (64, true)⟩,
        ⟨some 67, .callf 26 [.t 66], some (64, true)⟩,
        ⟨some 68, .lt .pick [.t 64, .t 67, .c (.b false)], none⟩,
        ⟨some 69, .lt .mv [.t 68], none⟩,
        ⟨some 70, .lt (.fa 2) [.t 1], some (69, true)⟩,
        ⟨some 71, .lt (.ld false 1) [.t 70], some (69, true)⟩,
        ⟨some 72, .lt (.bin .geq) [.t 71, .c (.i .i64 0)], some (69, true)⟩,
        ⟨some 73, .lt .pick [.t 69, .t 72, .c (.b false)], none⟩,
        ⟨some 74, .lt .mv [.t 73], none⟩,
        ⟨some 75, .lt (.fa 2) [.t 1], some (74, true)⟩,
        ⟨some 76, .lt (.ld false 1) [.t 75], some (74, true)⟩,
        ⟨some 77, .lt (.bin .leq) [.t 76, .c (.i .i64 1048576)], some (74, true)⟩,
        ⟨some 78, .lt .pick [.t 74, .t 77, .c (.b false)], none⟩,
        ⟨some 2, .lt .mv [.t 78], none⟩])
    (.ret))))
def d44 : IFunc := ⟨79, [.t 2], e44⟩
theorem c44 : compF Tryd.prog Tryd.f44 = some d44 := by kernel_rfl
/-- pinfold/lease.state -/
def e45 : ICode :=
  .seq (.reg [⟨some 2, .lt .mv [.c (.b false)], none⟩])
    (.seq (.seq (.reg [⟨some 3, .lt .mv [.t 0], none⟩,
        ⟨some 4, .lt .nck [.t 3], none⟩,
        ⟨some 5, .lt (.fa 1) [.t 4], none⟩,
        ⟨some 6, .lt (.ld false 1) [.t 5], none⟩])
    (.block 0 (.seq (.seq (.reg [⟨some 8, .lt (.bin .eql) [.t 6, .c (.i .i64 0)], none⟩,
          ⟨some 7, .lt .mv [.t 8], none⟩])
      (.cond (.t 7) (.skip)
      (.reg [⟨some 9, .lt (.bin .eql) [.t 6, .c (.i .i64 3)], none⟩,
            ⟨some 7, .lt .mv [.t 9], none⟩])))
      (.cond (.t 7) (.seq (.reg [⟨some 10, .lt .mv [.t 0], none⟩,
            ⟨some 11, .lt .nck [.t 10], none⟩,
            ⟨some 12, .lt (.fa 4) [.t 11], none⟩,
            ⟨some 13, .lt (.ld false 1) [.t 12], none⟩,
            ⟨some 14, .lt (.bin .eql) [.t 13, .c (.s [])], none⟩,
            ⟨some 15, .lt .mv [.t 14], none⟩,
            ⟨some 16, .lt .mv [.t 0], some (15, true)⟩,
            ⟨some 17, .lt .nck [.t 16], some (15, true)⟩,
            ⟨some 18, .lt (.fa 5) [.t 17], some (15, true)⟩,
            ⟨some 19, .lt (.ld false 1) [.t 18], some (15, true)⟩,
            ⟨some 20, .lt .not [.t 19], some (15, true)⟩,
            ⟨some 21, .lt .pick [.t 15, .t 20, .c (.b false)], none⟩,
            ⟨some 2, .lt .mv [.t 21], none⟩])
        (.ret))
      (.seq (.reg [⟨some 23, .lt (.bin .eql) [.t 6, .c (.i .i64 1)], none⟩,
            ⟨some 22, .lt .mv [.t 23], none⟩])
        (.cond (.t 22) (.seq (.reg [⟨some 24, .lt .mv [.t 0], none⟩,
              ⟨some 25, .lt .nck [.t 24], none⟩,
              ⟨some 26, .lt (.fa 2) [.t 25], none⟩,
              ⟨some 27, .lt (.ld false 1) [.t 26], none⟩,
              ⟨some 28, .lt (.bin .neq) [.t 27, .c (.s [])], none⟩,
              ⟨some 29, .lt .mv [.t 28], none⟩,
              ⟨some 30, .lt .mv [.t 0], some (29, true)⟩,
              ⟨some 31, .lt .nck [.t 30], some (29, true)⟩,
              ⟨some 32, .lt (.fa 4) [.t 31], some (29, true)⟩,
              ⟨some 33, .lt (.ld false 1) [.t 32], some (29, true)⟩,
              ⟨some 34, .lt (.bin .eql) [.t 33, .c (.s [])], some (29, true)⟩,
              ⟨some 35, .lt .pick [.t 29, .t 34, .c (.b false)], none⟩,
              ⟨some 36, .lt .mv [.t 35], none⟩,
              ⟨some 37, .lt .mv [.t 0], some (36, true)⟩,
              ⟨some 38, .lt .nck [.t 37], some (36, true)⟩,
              ⟨some 39, .lt (.fa 5) [.t 38], some (36, true)⟩,
              ⟨some 40, .lt (.ld false 1) [.t 39], some (36, true)⟩,
              ⟨some 41, .lt .not [.t 40], some (36, true)⟩,
              ⟨some 42, .lt .pick [.t 36, .t 41, .c (.b false)], none⟩,
              ⟨some 2, .lt .mv [.t 42], none⟩])
          (.ret))
        (.seq (.reg [⟨some 44, .lt (.bin .eql) [.t 6, .c (.i .i64 2)], none⟩,
              ⟨some 43, .lt .mv [.t 44], none⟩])
          (.cond (.t 43) (.seq (.reg [⟨some 45, .lt .mv [.t 0], none⟩,
                ⟨some 46, .lt .nck [.t 45], none⟩,
                ⟨some 47, .lt (.fa 2) [.t 46], none⟩,
                ⟨some 48, .lt (.ld false 1) [.t 47], none⟩,
                ⟨some 49, .lt (.bin .neq) [.t 48, .c (.s [])], none⟩,
                ⟨some 50, .lt .mv [.t 49], none⟩,
                ⟨some 51, .lt .mv [.t 0], some (50, true)⟩,
                ⟨some 52, .lt .nck [.t 51], some (50, true)⟩,
                ⟨some 53, .lt (.fa 4) [.t 52], some (50, true)⟩,
                ⟨some 54, .lt (.ld false 1) [.t 53], some (50, true)⟩,
                ⟨some 55, .lt (.bin .neq) [.t 54, .c (.s [])], some (50, true)⟩,
                ⟨some 56, .lt .mv [.t 55], some (50, true)⟩,
                ⟨some 57, .lt .mv [.t 0], some (56, false)⟩,
                ⟨some 58, .lt .nck [.t 57], some (56, false)⟩,
                ⟨some 59, .lt (.fa 5) [.t 58], some (56, false)⟩,
                ⟨some 60, .lt (.ld false 1) [.t 59], some (56, false)⟩,
                ⟨some 61, .lt .not [.t 60], some (56, false)⟩,
                ⟨some 62, .lt .pick [.t 56, .c (.b true), .t 61], some (50, true)⟩,
                ⟨some 63, .lt .pick [.t 50, .t 62, .c (.b false)], none⟩,
                ⟨some 2, .lt .mv [.t 63], none⟩])
            (.ret))
          (.skip)))))))))
    (.seq (.reg [⟨some 2, .lt .mv [.c (.b false)], none⟩])
    (.ret)))
def d45 : IFunc := ⟨64, [.t 2], e45⟩
theorem c45 : compF Tryd.prog Tryd.f45 = some d45 := by kernel_rfl
/-- pinfold/lease.Live -/
def e47 : ICode :=
  .seq (.reg [⟨some 2, .lt (.box 24 6) [.t 0], none⟩,
        ⟨some 4, .lt .mv [.c (.b false)], none⟩])
    (.seq (.reg [⟨some 5, .lt (.ld true 6) [.t 2], none⟩,
        ⟨some 6, .callf 31 [.t 5], none⟩,
        ⟨some 7, .lt .mv [.t 6], none⟩,
        ⟨some 8, .lt (.fa 1) [.t 2], some (7, true)⟩,
        ⟨some 9, .lt (.ld false 1) [.t 8], some (7, true)⟩,
        ⟨some 10, .lt (.bin .neq) [.t 9, .c (.i .i64 0)], some (7, true)⟩,
        ⟨some 11, .lt .pick [.t 7, .t 10, .c (.b false)], none⟩,
        ⟨some 12, .lt .mv [.t 11], none⟩,
        ⟨some 13, .lt (.fa 3) [.t 2], some (12, true)⟩,
        ⟨some 14, .lt (.ld false 1) [.t 13], some (12, true)⟩,
        ⟨some 15, .lt .mv [.t 1], some (12, true)⟩,
        ⟨some 16, .lt (.bin .gtr) [.t 14, .t 15], some (12, true)⟩,
        ⟨some 17, .lt .pick [.t 12, .t 16, .c (.b false)], none⟩,
        ⟨some 4, .lt .mv [.t 17], none⟩])
    (.ret))
def d47 : IFunc := ⟨18, [.t 4], e47⟩
theorem c47 : compF Tryd.prog Tryd.f47 = some d47 := by kernel_rfl
/-- pinfold/be.Bytes -/
def e48 : ICode :=
  .seq (.reg [⟨some 4, .lt .mv [.c (.s [])], none⟩])
    (.seq (.reg [⟨some 7, .lt .mv [.t 1], none⟩,
        ⟨some 8, .lt (.mks 5 1 1 [(.i .u8 0)]) [.t 7, .t 7], none⟩,
        ⟨some 5, .lt .mv [.t 8], none⟩])
    (.seq (.seq (.reg [⟨some 9, .lt .mv [.t 1], none⟩,
        ⟨some 10, .lt (.bin .sub) [.t 9, .c (.i .i64 1)], none⟩,
        ⟨some 6, .lt .mv [.t 10], none⟩])
    (.block 0 (.loop (.seq (.seq (.reg [⟨some 11, .lt .mv [.t 6], none⟩,
            ⟨some 12, .lt (.bin .geq) [.t 11, .c (.i .i64 0)], none⟩])
        (.cond (.t 12) (.skip)
        (.exit 0)))
        (.seq (.block 1 (.seq (.reg [⟨some 15, .lt .mv [.t 5], none⟩,
              ⟨some 16, .lt .mv [.t 6], none⟩,
              ⟨some 17, .lt .mv [.t 0], none⟩,
              ⟨some 18, .lt (.cvi .u8) [.t 17], none⟩,
              ⟨some 19, .lt (.ia 1) [.t 15, .t 16], none⟩,
              ⟨none, .lt (.st 1) [.t 19, .t 18], none⟩])
          (.reg [⟨some 20, .lt .mv [.t 0], none⟩,
              ⟨some 21, .lt (.bin .shr) [.t 20, .c (.i .u64 8)], none⟩,
              ⟨some 0, .lt .mv [.t 21], none⟩])))
        (.reg [⟨some 13, .lt .mv [.t 6], none⟩,
            ⟨some 14, .lt (.bin .sub) [.t 13, .c (.i .i64 1)], none⟩,
            ⟨some 6, .lt .mv [.t 14], none⟩]))))))
    (.seq (.reg [⟨some 22, .lt .mv [.t 5], none⟩,
        ⟨some 23, .lt .cvs [.t 22], none⟩,
        ⟨some 4, .lt .mv [.t 23], none⟩])
    (.ret))))
def d48 : IFunc := ⟨24, [.t 4], e48⟩
theorem c48 : compF Tryd.prog Tryd.f48 = some d48 := by kernel_rfl
/-- pinfold/ident.sum -/
def e49 : ICode :=
  .seq (.reg [⟨some 2, .lt .mv [.c (.i .u32 0)], none⟩])
    (.seq (.reg [⟨some 3, .lt .mv [.c (.i .u32 2166136261)], none⟩])
    (.seq (.seq (.reg [⟨some 5, .lt .mv [.t 0], none⟩,
        ⟨some 6, .lt (.len true) [.t 5], none⟩,
        ⟨some 7, .lt .mv [.c (.i .i64 0)], none⟩])
    (.block 0 (.loop (.seq (.reg [⟨some 8, .lt (.bin .lss) [.t 7, .t 6], none⟩])
        (.seq (.cond (.t 8) (.skip)
        (.exit 0))
        (.seq (.block 1 (.seq (.reg [⟨some 9, .lt .mv [.t 7], none⟩,
              ⟨some 4, .lt .mv [.t 9], none⟩])
          (.reg [⟨some 10, .lt .mv [.t 3], none⟩,
              ⟨some 11, .lt .mv [.t 0], none⟩,
              ⟨some 12, .lt .mv [.t 4], none⟩,
              ⟨some 13, .lt .ixs [.t 11, .t 12], none⟩,
              ⟨some 14, .lt (.cvi .u32) [.t 13], none⟩,
              ⟨some 15, .lt (.bin .xor) [.t 10, .t 14], none⟩,
              ⟨some 16, .lt (.bin .mul) [.t 15, .c (.i .u32 16777619)], none⟩,
              ⟨some 3, .lt .mv [.t 16], none⟩])))
        (.reg [⟨some 17, .lt (.bin .add) [.t 7, .c (.i .i64 1)], none⟩,
            ⟨some 7, .lt .mv [.t 17], none⟩])))))))
    (.seq (.reg [⟨some 18, .lt .mv [.t 3], none⟩,
        ⟨some 2, .lt .mv [.t 18], none⟩])
    (.ret))))
def d49 : IFunc := ⟨19, [.t 2], e49⟩
theorem c49 : compF Tryd.prog Tryd.f49 = some d49 := by kernel_rfl
/-- internal/strconv.Itoa -/
def e50 : ICode :=
  .seq (.reg [⟨some 2, .lt .mv [.c (.s [])], none⟩])
    (.seq (.reg [⟨some 3, .lt .mv [.t 0], none⟩,
        ⟨some 4, .callf 56 [.t 3, .c (.i .i64 10)], none⟩,
        ⟨some 2, .lt .mv [.t 4], none⟩])
    (.ret))
def d50 : IFunc := ⟨5, [.t 2], e50⟩
theorem c50 : compF Tryd.prog Tryd.f50 = some d50 := by kernel_rfl
/-- internal/stringslite.Cut -/
def e51 : ICode :=
  .seq (.reg [⟨some 4, .lt .mv [.c (.s [])], none⟩,
        ⟨some 5, .lt .mv [.c (.s [])], none⟩,
        ⟨some 6, .lt .mv [.c (.b false)], none⟩])
    (.seq (.seq (.reg [⟨some 8, .lt .mv [.t 0], none⟩,
        ⟨some 9, .lt .mv [.t 1], none⟩,
        ⟨some 10, .callf 57 [.t 8, .t 9], none⟩,
        ⟨some 7, .lt .mv [.t 10], none⟩])
    (.seq (.reg [⟨some 11, .lt .mv [.t 7], none⟩,
        ⟨some 12, .lt (.bin .geq) [.t 11, .c (.i .i64 0)], none⟩])
    (.cond (.t 12) (.seq (.draw [⟨some 13, .lt .mv [.t 0], none⟩,
          ⟨some 14, .lt .mv [.t 7], none⟩,
          ⟨some 15, .lt (.sls false true) [.t 13, .t 14], none⟩,
          ⟨some 16, .lt .mv [.t 0], none⟩,
          ⟨some 17, .lt .mv [.t 7], none⟩,
          ⟨some 18, .lt .mv [.t 1], none⟩,
          ⟨some 19, .lt (.len true) [.t 18], none⟩,
          ⟨some 20, .lt (.bin .add) [.t 17, .t 19], none⟩,
          ⟨some 21, .lt (.sls true false) [.t 16, .t 20], none⟩,
          ⟨some 4, .lt .mv [.t 15], none⟩,
          ⟨some 5, .lt .mv [.t 21], none⟩,
          ⟨some 6, .lt .mv [.c (.b true)], none⟩] [0, 0, 3, 0, 0, 0, 32, 112, 248, 7, 1023, 2047])
      (.ret))
    (.skip))))
    (.seq (.reg [⟨some 22, .lt .mv [.t 0], none⟩,
        ⟨some 4, .lt .mv [.t 22], none⟩,
        ⟨some 5, .lt .mv [.c (.s [])], none⟩,
        ⟨some 6, .lt .mv [.c (.b false)], none⟩])
    (.ret)))
def d51 : IFunc := ⟨23, [.t 4, .t 5, .t 6], e51⟩
theorem c51 : compF Tryd.prog Tryd.f51 = some d51 := by kernel_rfl
/-- pinfold/name.letter -/
def e52 : ICode :=
  .seq (.reg [⟨some 2, .lt .mv [.c (.b false)], none⟩])
    (.seq (.reg [⟨some 3, .lt .mv [.t 0], none⟩,
        ⟨some 4, .lt (.bin .geq) [.t 3, .c (.i .u8 97)], none⟩,
        ⟨some 5, .lt .mv [.t 4], none⟩,
        ⟨some 6, .lt .mv [.t 0], some (5, true)⟩,
        ⟨some 7, .lt (.bin .leq) [.t 6, .c (.i .u8 122)], some (5, true)⟩,
        ⟨some 8, .lt .pick [.t 5, .t 7, .c (.b false)], none⟩,
        ⟨some 9, .lt .mv [.t 8], none⟩,
        ⟨some 10, .lt .mv [.t 0], some (9, false)⟩,
        ⟨some 11, .lt (.bin .geq) [.t 10, .c (.i .u8 48)], some (9, false)⟩,
        ⟨some 12, .lt .mv [.t 11], some (9, false)⟩,
        ⟨some 13, .lt .mv [.t 0], some (12, true)⟩,
        ⟨some 14, .lt (.bin .leq) [.t 13, .c (.i .u8 57)], some (12, true)⟩,
        ⟨some 15, .lt .pick [.t 12, .t 14, .c (.b false)], some (9, false)⟩,
        ⟨some 16, .lt .pick [.t 9, .c (.b true), .t 15], none⟩,
        ⟨some 17, .lt .mv [.t 16], none⟩,
        ⟨some 18, .lt .mv [.t 0], some (17, false)⟩,
        ⟨some 19, .lt (.bin .eql) [.t 18, .c (.i .u8 45)], some (17, false)⟩,
        ⟨some 20, .lt .pick [.t 17, .c (.b true), .t 19], none⟩,
        ⟨some 2, .lt .mv [.t 20], none⟩])
    (.ret))
def d52 : IFunc := ⟨21, [.t 2], e52⟩
theorem c52 : compF Tryd.prog Tryd.f52 = some d52 := by kernel_rfl
/-- strings.genSplit -/
def e53 : ICode :=
  .seq (.reg [⟨some 8, .lt .mv [.c .sn], none⟩])
    (.seq (.seq (.reg [⟨some 12, .lt .mv [.t 3], none⟩,
        ⟨some 13, .lt (.bin .eql) [.t 12, .c (.i .i64 0)], none⟩])
    (.cond (.t 13) (.seq (.reg [⟨some 8, .lt .mv [.c .sn], none⟩])
      (.ret))
    (.skip)))
    (.seq (.seq (.reg [⟨some 14, .lt .mv [.t 1], none⟩,
        ⟨some 15, .lt (.bin .eql) [.t 14, .c (.s [])], none⟩])
    (.cond (.t 15) (.seq (.reg [⟨some 16, .lt .mv [.t 0], none⟩,
          ⟨some 17, .lt .mv [.t 3], none⟩,
          ⟨some 18, .callf 58 [.t 16, .t 17], none⟩,
          ⟨some 8, .lt .mv [.t 18], none⟩])
      (.ret))
    (.skip)))
    (.seq (.seq (.reg [⟨some 19, .lt .mv [.t 3], none⟩,
        ⟨some 20, .lt (.bin .lss) [.t 19, .c (.i .i64 0)], none⟩])
    (.cond (.t 20) (.reg [⟨some 21, .lt .mv [.t 0], none⟩,
          ⟨some 22, .lt .mv [.t 1], none⟩,
          ⟨some 23, .callf 59 [.t 21, .t 22], none⟩,
          ⟨some 24, .lt (.bin .add) [.t 23, .c (.i .i64 1)], none⟩,
          ⟨some 3, .lt .mv [.t 24], none⟩])
    (.skip)))
    (.seq (.reg [⟨some 25, .lt .mv [.t 3], none⟩,
        ⟨some 26, .lt .mv [.t 0], none⟩,
        ⟨some 27, .lt (.len true) [.t 26], none⟩,
        ⟨some 28, .lt (.bin .add) [.t 27, .c (.i .i64 1)], none⟩,
        ⟨some 29, .lt (.mnx false) [.t 25, .t 28], none⟩,
        ⟨some 3, .lt .mv [.t 29], none⟩])
    (.seq (.reg [⟨some 30, .lt .mv [.t 3], none⟩,
        ⟨some 31, .lt (.mks 9 1 16 [(.s [])]) [.t 30, .t 30], none⟩,
        ⟨some 9, .lt .mv [.t 31], none⟩])
    (.seq (.reg [⟨some 32, .lt .mv [.t 3], none⟩,
        ⟨some 33, .lt (.bin .sub) [.t 32, .c (.i .i64 1)], none⟩,
        ⟨some 3, .lt .mv [.t 33], none⟩])
    (.seq (.reg [⟨some 10, .lt .mv [.c (.i .i64 0)], none⟩])
    (.seq (.block 0 (.loop (.seq (.seq (.reg [⟨some 34, .lt .mv [.t 10], none⟩,
            ⟨some 35, .lt .mv [.t 3], none⟩,
            ⟨some 36, .lt (.bin .lss) [.t 34, .t 35], none⟩])
        (.cond (.t 36) (.skip)
        (.exit 0)))
        (.block 1 (.seq (.reg [⟨some 37, .lt .mv [.t 0], none⟩,
              ⟨some 38, .lt .mv [.t 1], none⟩,
              ⟨some 39, .callf 60 [.t 37, .t 38], none⟩,
              ⟨some 11, .lt .mv [.t 39], none⟩])
          (.seq (.seq (.reg [⟨some 40, .lt .mv [.t 11], none⟩,
              ⟨some 41, .lt (.bin .lss) [.t 40, .c (.i .i64 0)], none⟩])
          (.cond (.t 41) (.exit 0)
          (.skip)))
          (.seq (.reg [⟨some 42, .lt .mv [.t 9], none⟩,
              ⟨some 43, .lt .mv [.t 10], none⟩,
              ⟨some 44, .lt .mv [.t 0], none⟩,
              ⟨some 45, .lt .mv [.t 11], none⟩,
              ⟨some 46, .lt .mv [.t 2], none⟩,
              ⟨some 47, .lt (.bin .add) [.t 45, .t 46], none⟩,
              ⟨some 48, .lt (.sls false true) [.t 44, .t 47], none⟩,
              ⟨some 49, .lt (.ia 1) [.t 42, .t 43], none⟩,
              ⟨none, .lt (.st 1) [.t 49, .t 48], none⟩])
          (.seq (.reg [⟨some 50, .lt .mv [.t 0], none⟩,
              ⟨some 51, .lt .mv [.t 11], none⟩,
              ⟨some 52, .lt .mv [.t 1], none⟩,
              ⟨some 53, .lt (.len true) [.t 52], none⟩,
              ⟨some 54, .lt (.bin .add) [.t 51, .t 53], none⟩,
              ⟨some 55, .lt (.sls true false) [.t 50, .t 54], none⟩,
              ⟨some 0, .lt .mv [.t 55], none⟩])
          (.reg [⟨some 56, .lt .mv [.t 10], none⟩,
              ⟨some 57, .lt (.bin .add) [.t 56, .c (.i .i64 1)], none⟩,
              ⟨some 10, .lt .mv [.t 57], none⟩])))))))))
    (.seq (.reg [⟨some 58, .lt .mv [.t 9], none⟩,
        ⟨some 59, .lt .mv [.t 10], none⟩,
        ⟨some 60, .lt .mv [.t 0], none⟩,
        ⟨some 61, .lt (.ia 1) [.t 58, .t 59], none⟩,
        ⟨none, .lt (.st 1) [.t 61, .t 60], none⟩])
    (.seq (.reg [⟨some 62, .lt .mv [.t 9], none⟩,
        ⟨some 63, .lt .mv [.t 10], none⟩,
        ⟨some 64, .lt (.bin .add) [.t 63, .c (.i .i64 1)], none⟩,
        ⟨some 65, .lt (.sll 1 false true false) [.t 62, .t 64], none⟩,
        ⟨some 8, .lt .mv [.t 65], none⟩])
    (.ret)))))))))))
def d53 : IFunc := ⟨66, [.t 8], e53⟩
theorem c53 : compF Tryd.prog Tryd.f53 = some d53 := by kernel_rfl
/-- pinfold/rr.word -/
def e54 : ICode :=
  .seq (.reg [⟨some 2, .lt .mv [.c (.b false)], none⟩])
    (.seq (.reg [⟨some 3, .lt .mv [.t 0], none⟩,
        ⟨some 4, .lt (.bin .geq) [.t 3, .c (.i .i64 0)], none⟩,
        ⟨some 5, .lt .mv [.t 4], none⟩,
        ⟨some 6, .lt .mv [.t 0], some (5, true)⟩,
        ⟨some 7, .lt (.bin .leq) [.t 6, .c (.i .i64 4294967295)], some (5, true)⟩,
        ⟨some 8, .lt .pick [.t 5, .t 7, .c (.b false)], none⟩,
        ⟨some 2, .lt .mv [.t 8], none⟩])
    (.ret))
def d54 : IFunc := ⟨9, [.t 2], e54⟩
theorem c54 : compF Tryd.prog Tryd.f54 = some d54 := by kernel_rfl
/-- internal/stringslite.HasSuffix -/
def e55 : ICode :=
  .seq (.reg [⟨some 4, .lt .mv [.c (.b false)], none⟩])
    (.seq (.reg [⟨some 5, .lt .mv [.t 0], none⟩,
        ⟨some 6, .lt (.len true) [.t 5], none⟩,
        ⟨some 7, .lt .mv [.t 1], none⟩,
        ⟨some 8, .lt (.len true) [.t 7], none⟩,
        ⟨some 9, .lt (.bin .geq) [.t 6, .t 8], none⟩,
        ⟨some 10, .lt .mv [.t 9], none⟩,
        ⟨some 11, .lt .mv [.t 0], some (10, true)⟩,
        ⟨some 12, .lt .mv [.t 0], some (10, true)⟩,
        ⟨some 13, .lt (.len true) [.t 12], some (10, true)⟩,
        ⟨some 14, .lt .mv [.t 1], some (10, true)⟩,
        ⟨some 15, .lt (.len true) [.t 14], some (10, true)⟩,
        ⟨some 16, .lt (.bin .sub) [.t 13, .t 15], some (10, true)⟩,
        ⟨some 17, .lt (.sls true false) [.t 11, .t 16], some (10, true)⟩,
        ⟨some 18, .lt .mv [.t 1], some (10, true)⟩,
        ⟨some 19, .lt (.bin .eql) [.t 17, .t 18], some (10, true)⟩,
        ⟨some 20, .lt .pick [.t 10, .t 19, .c (.b false)], none⟩,
        ⟨some 4, .lt .mv [.t 20], none⟩])
    (.ret))
def d55 : IFunc := ⟨21, [.t 4], e55⟩
theorem c55 : compF Tryd.prog Tryd.f55 = some d55 := by kernel_rfl
/-- strings.explode -/
def e58 : ICode :=
  .seq (.reg [⟨some 4, .lt .mv [.c .sn], none⟩])
    (.seq (.reg [⟨some 10, .lt .mv [.t 0], none⟩,
        ⟨some 11, .callf 69 [.t 10], none⟩,
        ⟨some 5, .lt .mv [.t 11], none⟩])
    (.seq (.seq (.reg [⟨some 12, .lt .mv [.t 1], none⟩,
        ⟨some 13, .lt (.bin .lss) [.t 12, .c (.i .i64 0)], none⟩,
        ⟨some 14, .lt .mv [.t 13], none⟩,
        ⟨some 15, .lt .mv [.t 1], some (14, false)⟩,
        ⟨some 16, .lt .mv [.t 5], some (14, false)⟩,
        ⟨some 17, .lt (.bin .gtr) [.t 15, .t 16], some (14, false)⟩,
        ⟨some 18, .lt .pick [.t 14, .c (.b true), .t 17], none⟩])
    (.cond (.t 18) (.reg [⟨some 19, .lt .mv [.t 5], none⟩,
          ⟨some 1, .lt .mv [.t 19], none⟩])
    (.skip)))
    (.seq (.reg [⟨some 20, .lt .mv [.t 1], none⟩,
        ⟨some 21, .lt (.mks 9 1 16 [(.s [])]) [.t 20, .t 20], none⟩,
        ⟨some 6, .lt .mv [.t 21], none⟩])
    (.seq (.seq (.reg [⟨some 7, .lt .mv [.c (.i .i64 0)], none⟩])
    (.block 0 (.loop (.seq (.seq (.reg [⟨some 22, .lt .mv [.t 7], none⟩,
            ⟨some 23, .lt .mv [.t 1], none⟩,
            ⟨some 24, .lt (.bin .sub) [.t 23, .c (.i .i64 1)], none⟩,
            ⟨some 25, .lt (.bin .lss) [.t 22, .t 24], none⟩])
        (.cond (.t 25) (.skip)
        (.exit 0)))
        (.seq (.block 1 (.seq (.reg [⟨some 29, .lt .mv [.t 0], none⟩,
              ⟨some 30, .callf 70 [.t 29], none⟩,
              ⟨some 28, .lt .mv [.t 30], none⟩,
              ⟨some 31, .lt (.ext 0) [.t 28], none⟩,
              ⟨some 32, .lt (.ext 1) [.t 28], none⟩,
              ⟨some 8, .lt .mv [.t 31], none⟩,
              ⟨some 9, .lt .mv [.t 32], none⟩])
          (.seq (.reg [⟨some 33, .lt .mv [.t 6], none⟩,
              ⟨some 34, .lt .mv [.t 7], none⟩,
              ⟨some 35, .lt .mv [.t 0], none⟩,
              ⟨some 36, .lt .mv [.t 9], none⟩,
              ⟨some 37, .lt (.sls false true) [.t 35, .t 36], none⟩,
              ⟨some 38, .lt (.ia 1) [.t 33, .t 34], none⟩,
              ⟨none, .lt (.st 1) [.t 38, .t 37], none⟩])
          (.reg [⟨some 39, .lt .mv [.t 0], none⟩,
              ⟨some 40, .lt .mv [.t 9], none⟩,
              ⟨some 41, .lt (.sls true false) [.t 39, .t 40], none⟩,
              ⟨some 0, .lt .mv [.t 41], none⟩]))))
        (.reg [⟨some 26, .lt .mv [.t 7], none⟩,
            ⟨some 27, .lt (.bin .add) [.t 26, .c (.i .i64 1)], none⟩,
            ⟨some 7, .lt .mv [.t 27], none⟩]))))))
    (.seq (.seq (.reg [⟨some 42, .lt .mv [.t 1], none⟩,
        ⟨some 43, .lt (.bin .gtr) [.t 42, .c (.i .i64 0)], none⟩])
    (.cond (.t 43) (.reg [⟨some 44, .lt .mv [.t 6], none⟩,
          ⟨some 45, .lt .mv [.t 1], none⟩,
          ⟨some 46, .lt (.bin .sub) [.t 45, .c (.i .i64 1)], none⟩,
          ⟨some 47, .lt .mv [.t 0], none⟩,
          ⟨some 48, .lt (.ia 1) [.t 44, .t 46], none⟩,
          ⟨none, .lt (.st 1) [.t 48, .t 47], none⟩])
    (.skip)))
    (.seq (.reg [⟨some 49, .lt .mv [.t 6], none⟩,
        ⟨some 4, .lt .mv [.t 49], none⟩])
    (.ret)))))))
def d58 : IFunc := ⟨50, [.t 4], e58⟩
theorem c58 : compF Tryd.prog Tryd.f58 = some d58 := by kernel_rfl
/-- strings.Count -/
def e59 : ICode :=
  .seq (.reg [⟨some 4, .lt .mv [.c (.i .i64 0)], none⟩])
    (.seq (.seq (.reg [⟨some 7, .lt .mv [.t 1], none⟩,
        ⟨some 8, .lt (.len true) [.t 7], none⟩,
        ⟨some 9, .lt (.bin .eql) [.t 8, .c (.i .i64 0)], none⟩])
    (.cond (.t 9) (.seq (.reg [⟨some 10, .lt .mv [.t 0], none⟩,
          ⟨some 11, .callf 69 [.t 10], none⟩,
          ⟨some 12, .lt (.bin .add) [.t 11, .c (.i .i64 1)], none⟩,
          ⟨some 4, .lt .mv [.t 12], none⟩])
      (.ret))
    (.skip)))
    (.seq (.seq (.reg [⟨some 13, .lt .mv [.t 1], none⟩,
        ⟨some 14, .lt (.len true) [.t 13], none⟩,
        ⟨some 15, .lt (.bin .eql) [.t 14, .c (.i .i64 1)], none⟩])
    (.cond (.t 15) (.seq (.reg [⟨some 16, .lt .mv [.t 0], none⟩,
          ⟨some 17, .lt .mv [.t 1], none⟩,
          ⟨some 18, .lt .ixs [.t 17, .c (.i .i64 0)], none⟩,
          ⟨some 19, .callf 71 [.t 16, .t 18], none⟩,
          ⟨some 4, .lt .mv [.t 19], none⟩])
      (.ret))
    (.skip)))
    (.seq (.reg [⟨some 5, .lt .mv [.c (.i .i64 0)], none⟩])
    (.block 0 (.loop (.block 1 (.seq (.reg [⟨some 20, .lt .mv [.t 0], none⟩,
              ⟨some 21, .lt .mv [.t 1], none⟩,
              ⟨some 22, .callf 60 [.t 20, .t 21], none⟩,
              ⟨some 6, .lt .mv [.t 22], none⟩])
          (.seq (.seq (.reg [⟨some 23, .lt .mv [.t 6], none⟩,
              ⟨some 24, .lt (.bin .eql) [.t 23, .c (.i .i64 (-1))], none⟩])
          (.cond (.t 24) (.seq (.reg [⟨some 25, .lt .mv [.t 5], none⟩,
                ⟨some 4, .lt .mv [.t 25], none⟩])
            (.ret))
          (.skip)))
          (.seq (.reg [⟨some 26, .lt .mv [.t 5], none⟩,
              ⟨some 27, .lt (.bin .add) [.t 26, .c (.i .i64 1)], none⟩,
              ⟨some 5, .lt .mv [.t 27], none⟩])
          (.reg [⟨some 28, .lt .mv [.t 0], none⟩,
              ⟨some 29, .lt .mv [.t 6], none⟩,
              ⟨some 30, .lt .mv [.t 1], none⟩,
              ⟨some 31, .lt (.len true) [.t 30], none⟩,
              ⟨some 32, .lt (.bin .add) [.t 29, .t 31], none⟩,
              ⟨some 33, .lt (.sls true false) [.t 28, .t 32], none⟩,
              ⟨some 0, .lt .mv [.t 33], none⟩]))))))))))
def d59 : IFunc := ⟨34, [.t 4], e59⟩
theorem c59 : compF Tryd.prog Tryd.f59 = some d59 := by kernel_rfl
/-- strings.Index -/
def e60 : ICode :=
  .seq (.reg [⟨some 4, .lt .mv [.c (.i .i64 0)], none⟩])
    (.seq (.reg [⟨some 5, .lt .mv [.t 0], none⟩,
        ⟨some 6, .lt .mv [.t 1], none⟩,
        ⟨some 7, .callf 57 [.t 5, .t 6], none⟩,
        ⟨some 4, .lt .mv [.t 7], none⟩])
    (.ret))
def d60 : IFunc := ⟨8, [.t 4], e60⟩
theorem c60 : compF Tryd.prog Tryd.f60 = some d60 := by kernel_rfl
/-- internal/strconv.small -/
def e61 : ICode :=
  .seq (.reg [⟨some 2, .lt .mv [.c (.s [])], none⟩])
    (.seq (.seq (.reg [⟨some 3, .lt .mv [.t 0], none⟩,
        ⟨some 4, .lt (.bin .lss) [.t 3, .c (.i .i64 10)], none⟩])
    (.cond (.t 4) (.seq (.reg [⟨some 5, .lt .mv [.t 0], none⟩,
          ⟨some 6, .lt .mv [.t 0], none⟩,
          ⟨some 7, .lt (.bin .add) [.t 6, .c (.i .i64 1)], none⟩,
          ⟨some 8, .lt (.sls true true) [.c (.s [48, 49, 50, 51, 52, 53, 54, 55, 56, 57, 97, 98, 99, 100, 101, 102, 103, 104, 105, 106, 107, 108, 109, 110, 111, 112, 113, 114, 115, 116, 117, 118, 119, 120, 121, 122]), .t 5, .t 7], none⟩,
          ⟨some 2, .lt .mv [.t 8], none⟩])
      (.ret))
    (.skip)))
    (.seq (.reg [⟨some 9, .lt .mv [.t 0], none⟩,
        ⟨some 10, .lt (.bin .mul) [.t 9, .c (.i .i64 2)], none⟩,
        ⟨some 11, .lt .mv [.t 0], none⟩,
        ⟨some 12, .lt (.bin .mul) [.t 11, .c (.i .i64 2)], none⟩,
        ⟨some 13, .lt (.bin .add) [.t 12, .c (.i .i64 2)], none⟩,
        ⟨some 14, .lt (.sls true true) [.c (.s [48, 48, 48, 49, 48, 50, 48, 51, 48, 52, 48, 53, 48, 54, 48, 55, 48, 56, 48, 57, 49, 48, 49, 49, 49, 50, 49, 51, 49, 52, 49, 53, 49, 54, 49, 55, 49, 56, 49, 57, 50, 48, 50, 49, 50, 50, 50, 51, 50, 52, 50, 53, 50, 54, 50, 55, 50, 56, 50, 57, 51, 48, 51, 49, 51, 50, 51, 51, 51, 52, 51, 53, 51, 54, 51, 55, 51, 56, 51, 57, 52, 48, 52, 49, 52, 50, 52, 51, 52, 52, 52, 53, 52, 54, 52, 55, 52, 56, 52, 57, 53, 48, 53, 49, 53, 50, 53, 51, 53, 52, 53, 53, 53, 54, 53, 55, 53, 56, 53, 57, 54, 48, 54, 49, 54, 50, 54, 51, 54, 52, 54, 53, 54, 54, 54, 55, 54, 56, 54, 57, 55, 48, 55, 49, 55, 50, 55, 51, 55, 52, 55, 53, 55, 54, 55, 55, 55, 56, 55, 57, 56, 48, 56, 49, 56, 50, 56, 51, 56, 52, 56, 53, 56, 54, 56, 55, 56, 56, 56, 57, 57, 48, 57, 49, 57, 50, 57, 51, 57, 52, 57, 53, 57, 54, 57, 55, 57, 56, 57, 57]), .t 10, .t 13], none⟩,
        ⟨some 2, .lt .mv [.t 14], none⟩])
    (.ret)))
def d61 : IFunc := ⟨15, [.t 2], e61⟩
theorem c61 : compF Tryd.prog Tryd.f61 = some d61 := by kernel_rfl
/-- internal/strconv.formatBase10 -/
def e63 : ICode :=
  .seq (.reg [⟨some 17, .lt .mv [.t 0], none⟩,
        ⟨some 18, .lt (.len false) [.t 17], none⟩,
        ⟨some 4, .lt .mv [.t 18], none⟩])
    (.seq (.block 0 (.loop (.seq (.seq (.reg [⟨some 19, .lt .mv [.t 4], none⟩,
            ⟨some 20, .lt (.bin .geq) [.t 19, .c (.i .i64 8)], none⟩])
        (.cond (.t 20) (.skip)
        (.exit 0)))
        (.block 1 (.seq (.reg [⟨some 21, .lt .mv [.t 1], none⟩,
              ⟨some 22, .lt (.bin .rem) [.t 21, .c (.i .u64 100000000)], none⟩,
              ⟨some 23, .lt (.cvi .u32) [.t 22], none⟩,
              ⟨some 5, .lt .mv [.t 23], none⟩])
          (.seq (.reg [⟨some 24, .lt .mv [.t 1], none⟩,
              ⟨some 25, .lt (.bin .quo) [.t 24, .c (.i .u64 100000000)], none⟩,
              ⟨some 1, .lt .mv [.t 25], none⟩])
          (.seq (.reg [⟨some 26, .lt .mv [.t 5], none⟩,
              ⟨some 27, .lt (.bin .quo) [.t 26, .c (.i .u32 10000)], none⟩,
              ⟨some 28, .lt .mv [.t 5], none⟩,
              ⟨some 29, .lt (.bin .rem) [.t 28, .c (.i .u32 10000)], none⟩,
              ⟨some 6, .lt .mv [.t 27], none⟩,
              ⟨some 7, .lt .mv [.t 29], none⟩])
          (.seq (.reg [⟨some 30, .lt .mv [.t 7], none⟩,
              ⟨some 31, .lt (.bin .quo) [.t 30, .c (.i .u32 100)], none⟩,
              ⟨some 32, .lt (.bin .mul) [.t 31, .c (.i .u32 2)], none⟩,
              ⟨some 33, .lt .mv [.t 7], none⟩,
              ⟨some 34, .lt (.bin .rem) [.t 33, .c (.i .u32 100)], none⟩,
              ⟨some 35, .lt (.bin .mul) [.t 34, .c (.i .u32 2)], none⟩,
              ⟨some 8, .lt .mv [.t 32], none⟩,
              ⟨some 9, .lt .mv [.t 35], none⟩])
          (.seq (.reg [⟨some 36, .lt .mv [.t 6], none⟩,
              ⟨some 37, .lt (.bin .quo) [.t 36, .c (.i .u32 100)], none⟩,
              ⟨some 38, .lt (.bin .mul) [.t 37, .c (.i .u32 2)], none⟩,
              ⟨some 39, .lt .mv [.t 6], none⟩,
              ⟨some 40, .lt (.bin .rem) [.t 39, .c (.i .u32 100)], none⟩,
              ⟨some 41, .lt (.bin .mul) [.t 40, .c (.i .u32 2)], none⟩,
              ⟨some 10, .lt .mv [.t 38], none⟩,
              ⟨some 11, .lt .mv [.t 41], none⟩])
          (.seq (.draw [⟨some 42, .lt .mv [.t 0], none⟩,
              ⟨some 43, .lt .mv [.t 4], none⟩,
              ⟨some 44, .lt (.bin .sub) [.t 43, .c (.i .i64 1)], none⟩,
              ⟨some 45, .lt .mv [.t 0], none⟩,
              ⟨some 46, .lt .mv [.t 4], none⟩,
              ⟨some 47, .lt (.bin .sub) [.t 46, .c (.i .i64 2)], none⟩,
              ⟨some 48, .lt .mv [.t 9], none⟩,
              ⟨some 49, .lt (.bin .add) [.t 48, .c (.i .u32 1)], none⟩,
              ⟨some 50, .lt .ixs [.c (.s [48, 48, 48, 49, 48, 50, 48, 51, 48, 52, 48, 53, 48, 54, 48, 55, 48, 56, 48, 57, 49, 48, 49, 49, 49, 50, 49, 51, 49, 52, 49, 53, 49, 54, 49, 55, 49, 56, 49, 57, 50, 48, 50, 49, 50, 50, 50, 51, 50, 52, 50, 53, 50, 54, 50, 55, 50, 56, 50, 57, 51, 48, 51, 49, 51, 50, 51, 51, 51, 52, 51, 53, 51, 54, 51, 55, 51, 56, 51, 57, 52, 48, 52, 49, 52, 50, 52, 51, 52, 52, 52, 53, 52, 54, 52, 55, 52, 56, 52, 57, 53, 48, 53, 49, 53, 50, 53, 51, 53, 52, 53, 53, 53, 54, 53, 55, 53, 56, 53, 57, 54, 48, 54, 49, 54, 50, 54, 51, 54, 52, 54, 53, 54, 54, 54, 55, 54, 56, 54, 57, 55, 48, 55, 49, 55, 50, 55, 51, 55, 52, 55, 53, 55, 54, 55, 55, 55, 56, 55, 57, 56, 48, 56, 49, 56, 50, 56, 51, 56, 52, 56, 53, 56, 54, 56, 55, 56, 56, 56, 57, 57, 48, 57, 49, 57, 50, 57, 51, 57, 52, 57, 53, 57, 54, 57, 55, 57, 56, 57, 57]), .t 49], none⟩,
              ⟨some 51, .lt .mv [.t 9], none⟩,
              ⟨some 52, .lt .ixs [.c (.s [48, 48, 48, 49, 48, 50, 48, 51, 48, 52, 48, 53, 48, 54, 48, 55, 48, 56, 48, 57, 49, 48, 49, 49, 49, 50, 49, 51, 49, 52, 49, 53, 49, 54, 49, 55, 49, 56, 49, 57, 50, 48, 50, 49, 50, 50, 50, 51, 50, 52, 50, 53, 50, 54, 50, 55, 50, 56, 50, 57, 51, 48, 51, 49, 51, 50, 51, 51, 51, 52, 51, 53, 51, 54, 51, 55, 51, 56, 51, 57, 52, 48, 52, 49, 52, 50, 52, 51, 52, 52, 52, 53, 52, 54, 52, 55, 52, 56, 52, 57, 53, 48, 53, 49, 53, 50, 53, 51, 53, 52, 53, 53, 53, 54, 53, 55, 53, 56, 53, 57, 54, 48, 54, 49, 54, 50, 54, 51, 54, 52, 54, 53, 54, 54, 54, 55, 54, 56, 54, 57, 55, 48, 55, 49, 55, 50, 55, 51, 55, 52, 55, 53, 55, 54, 55, 55, 55, 56, 55, 57, 56, 48, 56, 49, 56, 50, 56, 51, 56, 52, 56, 53, 56, 54, 56, 55, 56, 56, 56, 57, 57, 48, 57, 49, 57, 50, 57, 51, 57, 52, 57, 53, 57, 54, 57, 55, 57, 56, 57, 57]), .t 51], none⟩,
              ⟨some 53, .lt (.ia 1) [.t 42, .t 44], none⟩,
              ⟨none, .lt (.st 1) [.t 53, .t 50], none⟩,
              ⟨some 54, .lt (.ia 1) [.t 45, .t 47], none⟩,
              ⟨none, .lt (.st 1) [.t 54, .t 52], none⟩] [0, 0, 2, 0, 0, 16, 0, 64, 192, 0, 512, 455, 2503, 8191, 16383])
          (.seq (.draw [⟨some 55, .lt .mv [.t 0], none⟩,
              ⟨some 56, .lt .mv [.t 4], none⟩,
              ⟨some 57, .lt (.bin .sub) [.t 56, .c (.i .i64 3)], none⟩,
              ⟨some 58, .lt .mv [.t 0], none⟩,
              ⟨some 59, .lt .mv [.t 4], none⟩,
              ⟨some 60, .lt (.bin .sub) [.t 59, .c (.i .i64 4)], none⟩,
              ⟨some 61, .lt .mv [.t 8], none⟩,
              ⟨some 62, .lt (.bin .add) [.t 61, .c (.i .u32 1)], none⟩,
              ⟨some 63, .lt .ixs [.c (.s [48, 48, 48, 49, 48, 50, 48, 51, 48, 52, 48, 53, 48, 54, 48, 55, 48, 56, 48, 57, 49, 48, 49, 49, 49, 50, 49, 51, 49, 52, 49, 53, 49, 54, 49, 55, 49, 56, 49, 57, 50, 48, 50, 49, 50, 50, 50, 51, 50, 52, 50, 53, 50, 54, 50, 55, 50, 56, 50, 57, 51, 48, 51, 49, 51, 50, 51, 51, 51, 52, 51, 53, 51, 54, 51, 55, 51, 56, 51, 57, 52, 48, 52, 49, 52, 50, 52, 51, 52, 52, 52, 53, 52, 54, 52, 55, 52, 56, 52, 57, 53, 48, 53, 49, 53, 50, 53, 51, 53, 52, 53, 53, 53, 54, 53, 55, 53, 56, 53, 57, 54, 48, 54, 49, 54, 50, 54, 51, 54, 52, 54, 53, 54, 54, 54, 55, 54, 56, 54, 57, 55, 48, 55, 49, 55, 50, 55, 51, 55, 52, 55, 53, 55, 54, 55, 55, 55, 56, 55, 57, 56, 48, 56, 49, 56, 50, 56, 51, 56, 52, 56, 53, 56, 54, 56, 55, 56, 56, 56, 57, 57, 48, 57, 49, 57, 50, 57, 51, 57, 52, 57, 53, 57, 54, 57, 55, 57, 56, 57, 57]), .t 62], none⟩,
              ⟨some 64, .lt .mv [.t 8], none⟩,
              ⟨some 65, .lt .ixs [.c (.s [48, 48, 48, 49, 48, 50, 48, 51, 48, 52, 48, 53, 48, 54, 48, 55, 48, 56, 48, 57, 49, 48, 49, 49, 49, 50, 49, 51, 49, 52, 49, 53, 49, 54, 49, 55, 49, 56, 49, 57, 50, 48, 50, 49, 50, 50, 50, 51, 50, 52, 50, 53, 50, 54, 50, 55, 50, 56, 50, 57, 51, 48, 51, 49, 51, 50, 51, 51, 51, 52, 51, 53, 51, 54, 51, 55, 51, 56, 51, 57, 52, 48, 52, 49, 52, 50, 52, 51, 52, 52, 52, 53, 52, 54, 52, 55, 52, 56, 52, 57, 53, 48, 53, 49, 53, 50, 53, 51, 53, 52, 53, 53, 53, 54, 53, 55, 53, 56, 53, 57, 54, 48, 54, 49, 54, 50, 54, 51, 54, 52, 54, 53, 54, 54, 54, 55, 54, 56, 54, 57, 55, 48, 55, 49, 55, 50, 55, 51, 55, 52, 55, 53, 55, 54, 55, 55, 55, 56, 55, 57, 56, 48, 56, 49, 56, 50, 56, 51, 56, 52, 56, 53, 56, 54, 56, 55, 56, 56, 56, 57, 57, 48, 57, 49, 57, 50, 57, 51, 57, 52, 57, 53, 57, 54, 57, 55, 57, 56, 57, 57]), .t 64], none⟩,
              ⟨some 66, .lt (.ia 1) [.t 55, .t 57], none⟩,
              ⟨none, .lt (.st 1) [.t 66, .t 63], none⟩,
              ⟨some 67, .lt (.ia 1) [.t 58, .t 60], none⟩,
              ⟨none, .lt (.st 1) [.t 67, .t 65], none⟩] [0, 0, 2, 0, 0, 16, 0, 64, 192, 0, 512, 455, 2503, 8191, 16383])
          (.seq (.draw [⟨some 68, .lt .mv [.t 0], none⟩,
              ⟨some 69, .lt .mv [.t 4], none⟩,
              ⟨some 70, .lt (.bin .sub) [.t 69, .c (.i .i64 5)], none⟩,
              ⟨some 71, .lt .mv [.t 0], none⟩,
              ⟨some 72, .lt .mv [.t 4], none⟩,
              ⟨some 73, .lt (.bin .sub) [.t 72, .c (.i .i64 6)], none⟩,
              ⟨some 74, .lt .mv [.t 11], none⟩,
              ⟨some 75, .lt (.bin .add) [.t 74, .c (.i .u32 1)], none⟩,
              ⟨some 76, .lt .ixs [.c (.s [48, 48, 48, 49, 48, 50, 48, 51, 48, 52, 48, 53, 48, 54, 48, 55, 48, 56, 48, 57, 49, 48, 49, 49, 49, 50, 49, 51, 49, 52, 49, 53, 49, 54, 49, 55, 49, 56, 49, 57, 50, 48, 50, 49, 50, 50, 50, 51, 50, 52, 50, 53, 50, 54, 50, 55, 50, 56, 50, 57, 51, 48, 51, 49, 51, 50, 51, 51, 51, 52, 51, 53, 51, 54, 51, 55, 51, 56, 51, 57, 52, 48, 52, 49, 52, 50, 52, 51, 52, 52, 52, 53, 52, 54, 52, 55, 52, 56, 52, 57, 53, 48, 53, 49, 53, 50, 53, 51, 53, 52, 53, 53, 53, 54, 53, 55, 53, 56, 53, 57, 54, 48, 54, 49, 54, 50, 54, 51, 54, 52, 54, 53, 54, 54, 54, 55, 54, 56, 54, 57, 55, 48, 55, 49, 55, 50, 55, 51, 55, 52, 55, 53, 55, 54, 55, 55, 55, 56, 55, 57, 56, 48, 56, 49, 56, 50, 56, 51, 56, 52, 56, 53, 56, 54, 56, 55, 56, 56, 56, 57, 57, 48, 57, 49, 57, 50, 57, 51, 57, 52, 57, 53, 57, 54, 57, 55, 57, 56, 57, 57]), .t 75], none⟩,
              ⟨some 77, .lt .mv [.t 11], none⟩,
              ⟨some 78, .lt .ixs [.c (.s [48, 48, 48, 49, 48, 50, 48, 51, 48, 52, 48, 53, 48, 54, 48, 55, 48, 56, 48, 57, 49, 48, 49, 49, 49, 50, 49, 51, 49, 52, 49, 53, 49, 54, 49, 55, 49, 56, 49, 57, 50, 48, 50, 49, 50, 50, 50, 51, 50, 52, 50, 53, 50, 54, 50, 55, 50, 56, 50, 57, 51, 48, 51, 49, 51, 50, 51, 51, 51, 52, 51, 53, 51, 54, 51, 55, 51, 56, 51, 57, 52, 48, 52, 49, 52, 50, 52, 51, 52, 52, 52, 53, 52, 54, 52, 55, 52, 56, 52, 57, 53, 48, 53, 49, 53, 50, 53, 51, 53, 52, 53, 53, 53, 54, 53, 55, 53, 56, 53, 57, 54, 48, 54, 49, 54, 50, 54, 51, 54, 52, 54, 53, 54, 54, 54, 55, 54, 56, 54, 57, 55, 48, 55, 49, 55, 50, 55, 51, 55, 52, 55, 53, 55, 54, 55, 55, 55, 56, 55, 57, 56, 48, 56, 49, 56, 50, 56, 51, 56, 52, 56, 53, 56, 54, 56, 55, 56, 56, 56, 57, 57, 48, 57, 49, 57, 50, 57, 51, 57, 52, 57, 53, 57, 54, 57, 55, 57, 56, 57, 57]), .t 77], none⟩,
              ⟨some 79, .lt (.ia 1) [.t 68, .t 70], none⟩,
              ⟨none, .lt (.st 1) [.t 79, .t 76], none⟩,
              ⟨some 80, .lt (.ia 1) [.t 71, .t 73], none⟩,
              ⟨none, .lt (.st 1) [.t 80, .t 78], none⟩] [0, 0, 2, 0, 0, 16, 0, 64, 192, 0, 512, 455, 2503, 8191, 16383])
          (.seq (.draw [⟨some 81, .lt .mv [.t 0], none⟩,
              ⟨some 82, .lt .mv [.t 4], none⟩,
              ⟨some 83, .lt (.bin .sub) [.t 82, .c (.i .i64 7)], none⟩,
              ⟨some 84, .lt .mv [.t 0], none⟩,
              ⟨some 85, .lt .mv [.t 4], none⟩,
              ⟨some 86, .lt (.bin .sub) [.t 85, .c (.i .i64 8)], none⟩,
              ⟨some 87, .lt .mv [.t 10], none⟩,
              ⟨some 88, .lt (.bin .add) [.t 87, .c (.i .u32 1)], none⟩,
              ⟨some 89, .lt .ixs [.c (.s [48, 48, 48, 49, 48, 50, 48, 51, 48, 52, 48, 53, 48, 54, 48, 55, 48, 56, 48, 57, 49, 48, 49, 49, 49, 50, 49, 51, 49, 52, 49, 53, 49, 54, 49, 55, 49, 56, 49, 57, 50, 48, 50, 49, 50, 50, 50, 51, 50, 52, 50, 53, 50, 54, 50, 55, 50, 56, 50, 57, 51, 48, 51, 49, 51, 50, 51, 51, 51, 52, 51, 53, 51, 54, 51, 55, 51, 56, 51, 57, 52, 48, 52, 49, 52, 50, 52, 51, 52, 52, 52, 53, 52, 54, 52, 55, 52, 56, 52, 57, 53, 48, 53, 49, 53, 50, 53, 51, 53, 52, 53, 53, 53, 54, 53, 55, 53, 56, 53, 57, 54, 48, 54, 49, 54, 50, 54, 51, 54, 52, 54, 53, 54, 54, 54, 55, 54, 56, 54, 57, 55, 48, 55, 49, 55, 50, 55, 51, 55, 52, 55, 53, 55, 54, 55, 55, 55, 56, 55, 57, 56, 48, 56, 49, 56, 50, 56, 51, 56, 52, 56, 53, 56, 54, 56, 55, 56, 56, 56, 57, 57, 48, 57, 49, 57, 50, 57, 51, 57, 52, 57, 53, 57, 54, 57, 55, 57, 56, 57, 57]), .t 88], none⟩,
              ⟨some 90, .lt .mv [.t 10], none⟩,
              ⟨some 91, .lt .ixs [.c (.s [48, 48, 48, 49, 48, 50, 48, 51, 48, 52, 48, 53, 48, 54, 48, 55, 48, 56, 48, 57, 49, 48, 49, 49, 49, 50, 49, 51, 49, 52, 49, 53, 49, 54, 49, 55, 49, 56, 49, 57, 50, 48, 50, 49, 50, 50, 50, 51, 50, 52, 50, 53, 50, 54, 50, 55, 50, 56, 50, 57, 51, 48, 51, 49, 51, 50, 51, 51, 51, 52, 51, 53, 51, 54, 51, 55, 51, 56, 51, 57, 52, 48, 52, 49, 52, 50, 52, 51, 52, 52, 52, 53, 52, 54, 52, 55, 52, 56, 52, 57, 53, 48, 53, 49, 53, 50, 53, 51, 53, 52, 53, 53, 53, 54, 53, 55, 53, 56, 53, 57, 54, 48, 54, 49, 54, 50, 54, 51, 54, 52, 54, 53, 54, 54, 54, 55, 54, 56, 54, 57, 55, 48, 55, 49, 55, 50, 55, 51, 55, 52, 55, 53, 55, 54, 55, 55, 55, 56, 55, 57, 56, 48, 56, 49, 56, 50, 56, 51, 56, 52, 56, 53, 56, 54, 56, 55, 56, 56, 56, 57, 57, 48, 57, 49, 57, 50, 57, 51, 57, 52, 57, 53, 57, 54, 57, 55, 57, 56, 57, 57]), .t 90], none⟩,
              ⟨some 92, .lt (.ia 1) [.t 81, .t 83], none⟩,
              ⟨none, .lt (.st 1) [.t 92, .t 89], none⟩,
              ⟨some 93, .lt (.ia 1) [.t 84, .t 86], none⟩,
              ⟨none, .lt (.st 1) [.t 93, .t 91], none⟩] [0, 0, 2, 0, 0, 16, 0, 64, 192, 0, 512, 455, 2503, 8191, 16383])
          (.reg [⟨some 94, .lt .mv [.t 4], none⟩,
              ⟨some 95, .lt (.bin .sub) [.t 94, .c (.i .i64 8)], none⟩,
              ⟨some 4, .lt .mv [.t 95], none⟩]))))))))))))))
    (.seq (.reg [⟨some 96, .lt .mv [.t 1], none⟩,
        ⟨some 97, .lt (.cvi .u32) [.t 96], none⟩,
        ⟨some 12, .lt .mv [.t 97], none⟩])
    (.seq (.seq (.reg [⟨some 98, .lt .mv [.t 4], none⟩,
        ⟨some 99, .lt (.bin .geq) [.t 98, .c (.i .i64 4)], none⟩])
    (.cond (.t 99) (.seq (.reg [⟨some 100, .lt .mv [.t 12], none⟩,
          ⟨some 101, .lt (.bin .rem) [.t 100, .c (.i .u32 10000)], none⟩,
          ⟨some 13, .lt .mv [.t 101], none⟩])
      (.seq (.reg [⟨some 102, .lt .mv [.t 12], none⟩,
          ⟨some 103, .lt (.bin .quo) [.t 102, .c (.i .u32 10000)], none⟩,
          ⟨some 12, .lt .mv [.t 103], none⟩])
      (.seq (.reg [⟨some 104, .lt .mv [.t 13], none⟩,
          ⟨some 105, .lt (.bin .quo) [.t 104, .c (.i .u32 100)], none⟩,
          ⟨some 106, .lt (.bin .mul) [.t 105, .c (.i .u32 2)], none⟩,
          ⟨some 107, .lt .mv [.t 13], none⟩,
          ⟨some 108, .lt (.bin .rem) [.t 107, .c (.i .u32 100)], none⟩,
          ⟨some 109, .lt (.bin .mul) [.t 108, .c (.i .u32 2)], none⟩,
          ⟨some 14, .lt .mv [.t 106], none⟩,
          ⟨some 15, .lt .mv [.t 109], none⟩])
      (.seq (.draw [⟨some 110, .lt .mv [.t 0], none⟩,
          ⟨some 111, .lt .mv [.t 4], none⟩,
          ⟨some 112, .lt (.bin .sub) [.t 111, .c (.i .i64 1)], none⟩,
          ⟨some 113, .lt .mv [.t 0], none⟩,
          ⟨some 114, .lt .mv [.t 4], none⟩,
          ⟨some 115, .lt (.bin .sub) [.t 114, .c (.i .i64 2)], none⟩,
          ⟨some 116, .lt .mv [.t 15], none⟩,
          ⟨some 117, .lt (.bin .add) [.t 116, .c (.i .u32 1)], none⟩,
          ⟨some 118, .lt .ixs [.c (.s [48, 48, 48, 49, 48, 50, 48, 51, 48, 52, 48, 53, 48, 54, 48, 55, 48, 56, 48, 57, 49, 48, 49, 49, 49, 50, 49, 51, 49, 52, 49, 53, 49, 54, 49, 55, 49, 56, 49, 57, 50, 48, 50, 49, 50, 50, 50, 51, 50, 52, 50, 53, 50, 54, 50, 55, 50, 56, 50, 57, 51, 48, 51, 49, 51, 50, 51, 51, 51, 52, 51, 53, 51, 54, 51, 55, 51, 56, 51, 57, 52, 48, 52, 49, 52, 50, 52, 51, 52, 52, 52, 53, 52, 54, 52, 55, 52, 56, 52, 57, 53, 48, 53, 49, 53, 50, 53, 51, 53, 52, 53, 53, 53, 54, 53, 55, 53, 56, 53, 57, 54, 48, 54, 49, 54, 50, 54, 51, 54, 52, 54, 53, 54, 54, 54, 55, 54, 56, 54, 57, 55, 48, 55, 49, 55, 50, 55, 51, 55, 52, 55, 53, 55, 54, 55, 55, 55, 56, 55, 57, 56, 48, 56, 49, 56, 50, 56, 51, 56, 52, 56, 53, 56, 54, 56, 55, 56, 56, 56, 57, 57, 48, 57, 49, 57, 50, 57, 51, 57, 52, 57, 53, 57, 54, 57, 55, 57, 56, 57, 57]), .t 117], none⟩,
          ⟨some 119, .lt .mv [.t 15], none⟩,
          ⟨some 120, .lt .ixs [.c (.s [48, 48, 48, 49, 48, 50, 48, 51, 48, 52, 48, 53, 48, 54, 48, 55, 48, 56, 48, 57, 49, 48, 49, 49, 49, 50, 49, 51, 49, 52, 49, 53, 49, 54, 49, 55, 49, 56, 49, 57, 50, 48, 50, 49, 50, 50, 50, 51, 50, 52, 50, 53, 50, 54, 50, 55, 50, 56, 50, 57, 51, 48, 51, 49, 51, 50, 51, 51, 51, 52, 51, 53, 51, 54, 51, 55, 51, 56, 51, 57, 52, 48, 52, 49, 52, 50, 52, 51, 52, 52, 52, 53, 52, 54, 52, 55, 52, 56, 52, 57, 53, 48, 53, 49, 53, 50, 53, 51, 53, 52, 53, 53, 53, 54, 53, 55, 53, 56, 53, 57, 54, 48, 54, 49, 54, 50, 54, 51, 54, 52, 54, 53, 54, 54, 54, 55, 54, 56, 54, 57, 55, 48, 55, 49, 55, 50, 55, 51, 55, 52, 55, 53, 55, 54, 55, 55, 55, 56, 55, 57, 56, 48, 56, 49, 56, 50, 56, 51, 56, 52, 56, 53, 56, 54, 56, 55, 56, 56, 56, 57, 57, 48, 57, 49, 57, 50, 57, 51, 57, 52, 57, 53, 57, 54, 57, 55, 57, 56, 57, 57]), .t 119], none⟩,
          ⟨some 121, .lt (.ia 1) [.t 110, .t 112], none⟩,
          ⟨none, .lt (.st 1) [.t 121, .t 118], none⟩,
          ⟨some 122, .lt (.ia 1) [.t 113, .t 115], none⟩,
          ⟨none, .lt (.st 1) [.t 122, .t 120], none⟩] [0, 0, 2, 0, 0, 16, 0, 64, 192, 0, 512, 455, 2503, 8191, 16383])
      (.seq (.draw [⟨some 123, .lt .mv [.t 0], none⟩,
          ⟨some 124, .lt .mv [.t 4], none⟩,
          ⟨some 125, .lt (.bin .sub) [.t 124, .c (.i .i64 3)], none⟩,
          ⟨some 126, .lt .mv [.t 0], none⟩,
          ⟨some 127, .lt .mv [.t 4], none⟩,
          ⟨some 128, .lt (.bin .sub) [.t 127, .c (.i .i64 4)], none⟩,
          ⟨some 129, .lt .mv [.t 14], none⟩,
          ⟨some 130, .lt (.bin .add) [.t 129, .c (.i .u32 1)], none⟩,
          ⟨some 131, .lt .ixs [.c (.s [48, 48, 48, 49, 48, 50, 48, 51, 48, 52, 48, 53, 48, 54, 48, 55, 48, 56, 48, 57, 49, 48, 49, 49, 49, 50, 49, 51, 49, 52, 49, 53, 49, 54, 49, 55, 49, 56, 49, 57, 50, 48, 50, 49, 50, 50, 50, 51, 50, 52, 50, 53, 50, 54, 50, 55, 50, 56, 50, 57, 51, 48, 51, 49, 51, 50, 51, 51, 51, 52, 51, 53, 51, 54, 51, 55, 51, 56, 51, 57, 52, 48, 52, 49, 52, 50, 52, 51, 52, 52, 52, 53, 52, 54, 52, 55, 52, 56, 52, 57, 53, 48, 53, 49, 53, 50, 53, 51, 53, 52, 53, 53, 53, 54, 53, 55, 53, 56, 53, 57, 54, 48, 54, 49, 54, 50, 54, 51, 54, 52, 54, 53, 54, 54, 54, 55, 54, 56, 54, 57, 55, 48, 55, 49, 55, 50, 55, 51, 55, 52, 55, 53, 55, 54, 55, 55, 55, 56, 55, 57, 56, 48, 56, 49, 56, 50, 56, 51, 56, 52, 56, 53, 56, 54, 56, 55, 56, 56, 56, 57, 57, 48, 57, 49, 57, 50, 57, 51, 57, 52, 57, 53, 57, 54, 57, 55, 57, 56, 57, 57]), .t 130], none⟩,
          ⟨some 132, .lt .mv [.t 14], none⟩,
          ⟨some 133, .lt .ixs [.c (.s [48, 48, 48, 49, 48, 50, 48, 51, 48, 52, 48, 53, 48, 54, 48, 55, 48, 56, 48, 57, 49, 48, 49, 49, 49, 50, 49, 51, 49, 52, 49, 53, 49, 54, 49, 55, 49, 56, 49, 57, 50, 48, 50, 49, 50, 50, 50, 51, 50, 52, 50, 53, 50, 54, 50, 55, 50, 56, 50, 57, 51, 48, 51, 49, 51, 50, 51, 51, 51, 52, 51, 53, 51, 54, 51, 55, 51, 56, 51, 57, 52, 48, 52, 49, 52, 50, 52, 51, 52, 52, 52, 53, 52, 54, 52, 55, 52, 56, 52, 57, 53, 48, 53, 49, 53, 50, 53, 51, 53, 52, 53, 53, 53, 54, 53, 55, 53, 56, 53, 57, 54, 48, 54, 49, 54, 50, 54, 51, 54, 52, 54, 53, 54, 54, 54, 55, 54, 56, 54, 57, 55, 48, 55, 49, 55, 50, 55, 51, 55, 52, 55, 53, 55, 54, 55, 55, 55, 56, 55, 57, 56, 48, 56, 49, 56, 50, 56, 51, 56, 52, 56, 53, 56, 54, 56, 55, 56, 56, 56, 57, 57, 48, 57, 49, 57, 50, 57, 51, 57, 52, 57, 53, 57, 54, 57, 55, 57, 56, 57, 57]), .t 132], none⟩,
          ⟨some 134, .lt (.ia 1) [.t 123, .t 125], none⟩,
          ⟨none, .lt (.st 1) [.t 134, .t 131], none⟩,
          ⟨some 135, .lt (.ia 1) [.t 126, .t 128], none⟩,
          ⟨none, .lt (.st 1) [.t 135, .t 133], none⟩] [0, 0, 2, 0, 0, 16, 0, 64, 192, 0, 512, 455, 2503, 8191, 16383])
      (.reg [⟨some 136, .lt .mv [.t 4], none⟩,
          ⟨some 137, .lt (.bin .sub) [.t 136, .c (.i .i64 4)], none⟩,
          ⟨some 4, .lt .mv [.t 137], none⟩]))))))
    (.skip)))
    (.seq (.seq (.reg [⟨some 138, .lt .mv [.t 4], none⟩,
        ⟨some 139, .lt (.bin .geq) [.t 138, .c (.i .i64 2)], none⟩])
    (.cond (.t 139) (.seq (.reg [⟨some 140, .lt .mv [.t 12], none⟩,
          ⟨some 141, .lt (.bin .rem) [.t 140, .c (.i .u32 100)], none⟩,
          ⟨some 142, .lt (.bin .mul) [.t 141, .c (.i .u32 2)], none⟩,
          ⟨some 16, .lt .mv [.t 142], none⟩])
      (.seq (.reg [⟨some 143, .lt .mv [.t 12], none⟩,
          ⟨some 144, .lt (.bin .quo) [.t 143, .c (.i .u32 100)], none⟩,
          ⟨some 12, .lt .mv [.t 144], none⟩])
      (.seq (.draw [⟨some 145, .lt .mv [.t 0], none⟩,
          ⟨some 146, .lt .mv [.t 4], none⟩,
          ⟨some 147, .lt (.bin .sub) [.t 146, .c (.i .i64 1)], none⟩,
          ⟨some 148, .lt .mv [.t 0], none⟩,
          ⟨some 149, .lt .mv [.t 4], none⟩,
          ⟨some 150, .lt (.bin .sub) [.t 149, .c (.i .i64 2)], none⟩,
          ⟨some 151, .lt .mv [.t 16], none⟩,
          ⟨some 152, .lt (.bin .add) [.t 151, .c (.i .u32 1)], none⟩,
          ⟨some 153, .lt .ixs [.c (.s [48, 48, 48, 49, 48, 50, 48, 51, 48, 52, 48, 53, 48, 54, 48, 55, 48, 56, 48, 57, 49, 48, 49, 49, 49, 50, 49, 51, 49, 52, 49, 53, 49, 54, 49, 55, 49, 56, 49, 57, 50, 48, 50, 49, 50, 50, 50, 51, 50, 52, 50, 53, 50, 54, 50, 55, 50, 56, 50, 57, 51, 48, 51, 49, 51, 50, 51, 51, 51, 52, 51, 53, 51, 54, 51, 55, 51, 56, 51, 57, 52, 48, 52, 49, 52, 50, 52, 51, 52, 52, 52, 53, 52, 54, 52, 55, 52, 56, 52, 57, 53, 48, 53, 49, 53, 50, 53, 51, 53, 52, 53, 53, 53, 54, 53, 55, 53, 56, 53, 57, 54, 48, 54, 49, 54, 50, 54, 51, 54, 52, 54, 53, 54, 54, 54, 55, 54, 56, 54, 57, 55, 48, 55, 49, 55, 50, 55, 51, 55, 52, 55, 53, 55, 54, 55, 55, 55, 56, 55, 57, 56, 48, 56, 49, 56, 50, 56, 51, 56, 52, 56, 53, 56, 54, 56, 55, 56, 56, 56, 57, 57, 48, 57, 49, 57, 50, 57, 51, 57, 52, 57, 53, 57, 54, 57, 55, 57, 56, 57, 57]), .t 152], none⟩,
          ⟨some 154, .lt .mv [.t 16], none⟩,
          ⟨some 155, .lt .ixs [.c (.s [48, 48, 48, 49, 48, 50, 48, 51, 48, 52, 48, 53, 48, 54, 48, 55, 48, 56, 48, 57, 49, 48, 49, 49, 49, 50, 49, 51, 49, 52, 49, 53, 49, 54, 49, 55, 49, 56, 49, 57, 50, 48, 50, 49, 50, 50, 50, 51, 50, 52, 50, 53, 50, 54, 50, 55, 50, 56, 50, 57, 51, 48, 51, 49, 51, 50, 51, 51, 51, 52, 51, 53, 51, 54, 51, 55, 51, 56, 51, 57, 52, 48, 52, 49, 52, 50, 52, 51, 52, 52, 52, 53, 52, 54, 52, 55, 52, 56, 52, 57, 53, 48, 53, 49, 53, 50, 53, 51, 53, 52, 53, 53, 53, 54, 53, 55, 53, 56, 53, 57, 54, 48, 54, 49, 54, 50, 54, 51, 54, 52, 54, 53, 54, 54, 54, 55, 54, 56, 54, 57, 55, 48, 55, 49, 55, 50, 55, 51, 55, 52, 55, 53, 55, 54, 55, 55, 55, 56, 55, 57, 56, 48, 56, 49, 56, 50, 56, 51, 56, 52, 56, 53, 56, 54, 56, 55, 56, 56, 56, 57, 57, 48, 57, 49, 57, 50, 57, 51, 57, 52, 57, 53, 57, 54, 57, 55, 57, 56, 57, 57]), .t 154], none⟩,
          ⟨some 156, .lt (.ia 1) [.t 145, .t 147], none⟩,
          ⟨none, .lt (.st 1) [.t 156, .t 153], none⟩,
          ⟨some 157, .lt (.ia 1) [.t 148, .t 150], none⟩,
          ⟨none, .lt (.st 1) [.t 157, .t 155], none⟩] [0, 0, 2, 0, 0, 16, 0, 64, 192, 0, 512, 455, 2503, 8191, 16383])
      (.reg [⟨some 158, .lt .mv [.t 4], none⟩,
          ⟨some 159, .lt (.bin .sub) [.t 158, .c (.i .i64 2)], none⟩,
          ⟨some 4, .lt .mv [.t 159], none⟩]))))
    (.skip)))
    (.seq (.reg [⟨some 160, .lt .mv [.t 4], none⟩,
        ⟨some 161, .lt (.bin .gtr) [.t 160, .c (.i .i64 0)], none⟩])
    (.cond (.t 161) (.reg [⟨some 162, .lt .mv [.t 0], none⟩,
          ⟨some 163, .lt .mv [.t 12], none⟩,
          ⟨some 164, .lt (.bin .add) [.c (.i .u32 48), .t 163], none⟩,
          ⟨some 165, .lt (.cvi .u8) [.t 164], none⟩,
          ⟨some 166, .lt (.ia 1) [.t 162, .c (.i .i64 0)], none⟩,
          ⟨none, .lt (.st 1) [.t 166, .t 165], none⟩])
    (.skip)))))))
def d63 : IFunc := ⟨167, [], e63⟩
theorem c63 : compF Tryd.prog Tryd.f63 = some d63 := by kernel_rfl
/-- internal/stringslite.IndexByte -/
def e65 : ICode :=
  .seq (.reg [⟨some 4, .lt .mv [.c (.i .i64 0)], none⟩])
    (.seq (.reg [⟨some 5, .lt .mv [.t 0], none⟩,
        ⟨some 6, .lt .mv [.t 1], none⟩,
        ⟨some 7, .callf 77 [.t 5, .t 6], none⟩,
        ⟨some 4, .lt .mv [.t 7], none⟩])
    (.ret))
def d65 : IFunc := ⟨8, [.t 4], e65⟩
theorem c65 : compF Tryd.prog Tryd.f65 = some d65 := by kernel_rfl
/-- internal/bytealg.Cutover -/
def e67 : ICode :=
  .seq (.reg [⟨some 2, .lt .mv [.c (.i .i64 0)], none⟩])
    (.seq (.reg [⟨some 3, .lt .mv [.t 0], none⟩,
        ⟨some 4, .lt (.bin .add) [.t 3, .c (.i .i64 16)], none⟩,
        ⟨some 5, .lt (.bin .quo) [.t 4, .c (.i .i64 8)], none⟩,
        ⟨some 2, .lt .mv [.t 5], none⟩])
    (.ret))
def d67 : IFunc := ⟨6, [.t 2], e67⟩
theorem c67 : compF Tryd.prog Tryd.f67 = some d67 := by kernel_rfl
/-- internal/bytealg.IndexRabinKarp[string] -/
def e68 : ICode :=
  .seq (.reg [⟨some 4, .lt .mv [.c (.i .i64 0)], none⟩])
    (.seq (.reg [⟨some 12, .lt .mv [.t 1], none⟩,
        ⟨some 13, .callf 78 [.t 12], none⟩,
        ⟨some 11, .lt .mv [.t 13], none⟩,
        ⟨some 14, .lt (.ext 0) [.t 11], none⟩,
        ⟨some 15, .lt (.ext 1) [.t 11], none⟩,
        ⟨some 5, .lt .mv [.t 14], none⟩,
        ⟨some 6, .lt .mv [.t 15], none⟩])
    (.seq (.reg [⟨some 16, .lt .mv [.t 1], none⟩,
        ⟨some 17, .lt (.len true) [.t 16], none⟩,
        ⟨some 7, .lt .mv [.t 17], none⟩])
    (.seq (.reg [⟨some 8, .lt .mv [.c (.i .u32 0)], none⟩])
    (.seq (.seq (.reg [⟨some 9, .lt .mv [.c (.i .i64 0)], none⟩])
    (.block 0 (.loop (.seq (.seq (.reg [⟨some 18, .lt .mv [.t 9], none⟩,
            ⟨some 19, .lt .mv [.t 7], none⟩,
            ⟨some 20, .lt (.bin .lss) [.t 18, .t 19], none⟩])
        (.cond (.t 20) (.skip)
        (.exit 0)))
        (.seq (.block 1 (.reg [⟨some 23, .lt .mv [.t 8], none⟩,
              ⟨some 24, .lt (.bin .mul) [.t 23, .c (.i .u32 16777619)], none⟩,
              ⟨some 25, .lt .mv [.t 0], none⟩,
              ⟨some 26, .lt .mv [.t 9], none⟩,
              ⟨some 27, .lt .ixs [.t 25, .t 26], none⟩,
              ⟨some 28, .lt (.cvi .u32) [.t 27], none⟩,
              ⟨some 29, .lt (.bin .add) [.t 24, .t 28], none⟩,
              ⟨some 8, .lt .mv [.t 29], none⟩]))
        (.reg [⟨some 21, .lt .mv [.t 9], none⟩,
            ⟨some 22, .lt (.bin .add) [.t 21, .c (.i .i64 1)], none⟩,
            ⟨some 9, .lt .mv [.t 22], none⟩]))))))
    (.seq (.seq (.reg [⟨some 30, .lt .mv [.t 8], none⟩,
        ⟨some 31, .lt .mv [.t 5], none⟩,
        ⟨some 32, .lt (.bin .eql) [.t 30, .t 31], none⟩,
        ⟨some 33, .lt .mv [.t 32], none⟩,
        ⟨some 34, .lt .mv [.t 0], some (33, true)⟩,
        ⟨some 35, .lt .mv [.t 7], some (33, true)⟩,
        ⟨some 36, .lt (.sls false true) [.t 34, .t 35], some (33, true)⟩,
        ⟨some 37, .lt .mv [.t 1], some (33, true)⟩,
        ⟨some 38, .lt (.bin .eql) [.t 36, .t 37], some (33, true)⟩,
        ⟨some 39, .lt .pick [.t 33, .t 38, .c (.b false)], none⟩])
    (.cond (.t 39) (.seq (.reg [⟨some 4, .lt .mv [.c (.i .i64 0)], none⟩])
      (.ret))
    (.skip)))
    (.seq (.seq (.reg [⟨some 40, .lt .mv [.t 7], none⟩,
        ⟨some 10, .lt .mv [.t 40], none⟩])
    (.block 2 (.loop (.seq (.seq (.reg [⟨some 41, .lt .mv [.t 10], none⟩,
            ⟨some 42, .lt .mv [.t 0], none⟩,
            ⟨some 43, .lt (.len true) [.t 42], none⟩,
            ⟨some 44, .lt (.bin .lss) [.t 41, .t 43], none⟩])
        (.cond (.t 44) (.skip)
        (.exit 2)))
        (.block 3 (.seq (.reg [⟨some 45, .lt .mv [.t 8], none⟩,
              ⟨some 46, .lt (.bin .mul) [.t 45, .c (.i .u32 16777619)], none⟩,
              ⟨some 8, .lt .mv [.t 46], none⟩])
          (.seq (.reg [⟨some 47, .lt .mv [.t 8], none⟩,
              ⟨some 48, .lt .mv [.t 0], none⟩,
              ⟨some 49, .lt .mv [.t 10], none⟩,
              ⟨some 50, .lt .ixs [.t 48, .t 49], none⟩,
              ⟨some 51, .lt (.cvi .u32) [.t 50], none⟩,
              ⟨some 52, .lt (.bin .add) [.t 47, .t 51], none⟩,
              ⟨some 8, .lt .mv [.t 52], none⟩])
          (.seq (.reg [⟨some 53, .lt .mv [.t 8], none⟩,
              ⟨some 54, .lt .mv [.t 6], none⟩,
              ⟨some 55, .lt .mv [.t 0], none⟩,
              ⟨some 56, .lt .mv [.t 10], none⟩,
              ⟨some 57, .lt .mv [.t 7], none⟩,
              ⟨some 58, .lt (.bin .sub) [.t 56, .t 57], none⟩,
              ⟨some 59, .lt .ixs [.t 55, .t 58], none⟩,
              ⟨some 60, .lt (.cvi .u32) [.t 59], none⟩,
              ⟨some 61, .lt (.bin .mul) [.t 54, .t 60], none⟩,
              ⟨some 62, .lt (.bin .sub) [.t 53, .t 61], none⟩,
              ⟨some 8, .lt .mv [.t 62], none⟩])
          (.seq (.reg [⟨some 63, .lt .mv [.t 10], none⟩,
              ⟨some 64, .lt (.bin .add) [.t 63, .c (.i .i64 1)], none⟩,
              ⟨some 10, .lt .mv [.t 64], none⟩])
          (.seq (.reg [⟨some 65, .lt .mv [.t 8], none⟩,
              ⟨some 66, .lt .mv [.t 5], none⟩,
              ⟨some 67, .lt (.bin .eql) [.t 65, .t 66], none⟩,
              ⟨some 68, .lt .mv [.t 67], none⟩,
              ⟨some 69, .lt .mv [.t 0], some (68, true)⟩,
              ⟨some 70, .lt .mv [.t 10], some (68, true)⟩,
              ⟨some 71, .lt .mv [.t 7], some (68, true)⟩,
              ⟨some 72, .lt (.bin .sub) [.t 70, .t 71], some (68, true)⟩,
              ⟨some 73, .lt .mv [.t 10], some (68, true)⟩,
              ⟨some 74, .lt (.sls true true) [.t 69, .t 72, .t 73], some (68, true)⟩,
              ⟨some 75, .lt .mv [.t 1], some (68, true)⟩,
              ⟨some 76, .lt (.bin .eql) [.t 74, .t 75], some (68, true)⟩,
              ⟨some 77, .lt .pick [.t 68, .t 76, .c (.b false)], none⟩])
          (.cond (.t 77) (.seq (.reg [⟨some 78, .lt .mv [.t 10], none⟩,
                ⟨some 79, .lt .mv [.t 7], none⟩,
                ⟨some 80, .lt (.bin .sub) [.t 78, .t 79], none⟩,
                ⟨some 4, .lt .mv [.t 80], none⟩])
            (.ret))
          (.skip))))))))))))
    (.seq (.reg [⟨some 4, .lt .mv [.c (.i .i64 (-1))], none⟩])
    (.ret))))))))
def d68 : IFunc := ⟨81, [.t 4], e68⟩
theorem c68 : compF Tryd.prog Tryd.f68 = some d68 := by kernel_rfl
/-- unicode/utf8.DecodeRuneInString -/
def e70 : ICode :=
  .seq (.reg [⟨some 2, .lt .mv [.c (.i .i32 0)], none⟩,
        ⟨some 3, .lt .mv [.c (.i .i64 0)], none⟩])
    (.seq (.seq (.reg [⟨some 4, .lt .mv [.t 0], none⟩,
        ⟨some 5, .lt (.bin .neq) [.t 4, .c (.s [])], none⟩,
        ⟨some 6, .lt .mv [.t 5], none⟩,
        ⟨some 7, .lt .mv [.t 0], some (6, true)⟩,
        ⟨some 8, .lt .ixs [.t 7, .c (.i .i64 0)], some (6, true)⟩,
        ⟨some 9, .lt (.bin .lss) [.t 8, .c (.i .u8 128)], some (6, true)⟩,
        ⟨some 10, .lt .pick [.t 6, .t 9, .c (.b false)], none⟩])
    (.cond (.t 10) (.seq (.reg [⟨some 11, .lt .mv [.t 0], none⟩,
          ⟨some 12, .lt .ixs [.t 11, .c (.i .i64 0)], none⟩,
          ⟨some 13, .lt (.cvi .i32) [.t 12], none⟩,
          ⟨some 2, .lt .mv [.t 13], none⟩,
          ⟨some 3, .lt .mv [.c (.i .i64 1)], none⟩])
      (.ret))
    (.reg [⟨some 15, .lt .mv [.t 0], none⟩,
          ⟨some 16, .callf 79 [.t 15], none⟩,
          ⟨some 14, .lt .mv [.t 16], none⟩,
          ⟨some 17, .lt (.ext 0) [.t 14], none⟩,
          ⟨some 18, .lt (.ext 1) [.t 14], none⟩,
          ⟨some 2, .lt .mv [.t 17], none⟩,
          ⟨some 3, .lt .mv [.t 18], none⟩])))
    (.ret))
def d70 : IFunc := ⟨19, [.t 2, .t 3], e70⟩
theorem c70 : compF Tryd.prog Tryd.f70 = some d70 := by kernel_rfl
/-- internal/strconv.log10Pow2 -/
def e72 : ICode :=
  .seq (.reg [⟨some 2, .lt .mv [.c (.i .i64 0)], none⟩])
    (.seq (.reg [⟨some 3, .lt .mv [.t 0], none⟩,
        ⟨some 4, .lt (.bin .mul) [.t 3, .c (.i .i64 78913)], none⟩,
        ⟨some 5, .lt (.bin .shr) [.t 4, .c (.i .u64 18)], none⟩,
        ⟨some 2, .lt .mv [.t 5], none⟩])
    (.ret))
def d72 : IFunc := ⟨6, [.t 2], e72⟩
theorem c72 : compF Tryd.prog Tryd.f72 = some d72 := by kernel_rfl
/-- math/bits.Len64 -/
def e73 : ICode :=
  .seq (.reg [⟨some 2, .lt .mv [.c (.i .i64 0)], none⟩])
    (.seq (.seq (.reg [⟨some 3, .lt .mv [.t 0], none⟩,
        ⟨some 4, .lt (.bin .geq) [.t 3, .c (.i .u64 4294967296)], none⟩])
    (.cond (.t 4) (.seq (.reg [⟨some 5, .lt .mv [.t 0], none⟩,
          ⟨some 6, .lt (.bin .shr) [.t 5, .c (.i .u64 32)], none⟩,
          ⟨some 0, .lt .mv [.t 6], none⟩])
      (.reg [⟨some 2, .lt .mv [.c (.i .i64 32)], none⟩]))
    (.skip)))
    (.seq (.seq (.reg [⟨some 7, .lt .mv [.t 0], none⟩,
        ⟨some 8, .lt (.bin .geq) [.t 7, .c (.i .u64 65536)], none⟩])
    (.cond (.t 8) (.seq (.reg [⟨some 9, .lt .mv [.t 0], none⟩,
          ⟨some 10, .lt (.bin .shr) [.t 9, .c (.i .u64 16)], none⟩,
          ⟨some 0, .lt .mv [.t 10], none⟩])
      (.reg [⟨some 11, .lt .mv [.t 2], none⟩,
          ⟨some 12, .lt (.bin .add) [.t 11, .c (.i .i64 16)], none⟩,
          ⟨some 2, .lt .mv [.t 12], none⟩]))
    (.skip)))
    (.seq (.seq (.reg [⟨some 13, .lt .mv [.t 0], none⟩,
        ⟨some 14, .lt (.bin .geq) [.t 13, .c (.i .u64 256)], none⟩])
    (.cond (.t 14) (.seq (.reg [⟨some 15, .lt .mv [.t 0], none⟩,
          ⟨some 16, .lt (.bin .shr) [.t 15, .c (.i .u64 8)], none⟩,
          ⟨some 0, .lt .mv [.t 16], none⟩])
      (.reg [⟨some 17, .lt .mv [.t 2], none⟩,
          ⟨some 18, .lt (.bin .add) [.t 17, .c (.i .i64 8)], none⟩,
          ⟨some 2, .lt .mv [.t 18], none⟩]))
    (.skip)))
    (.seq (.reg [⟨some 19, .lt .mv [.t 2], none⟩,
        ⟨some 20, .lt .mv [.t 0], none⟩,
        ⟨some 21, .lt (.cvi .u8) [.t 20], none⟩,
        ⟨some 22, .lt .ixs [.c (.s [0, 1, 2, 2, 3, 3, 3, 3, 4, 4, 4, 4, 4, 4, 4, 4, 5, 5, 5, 5, 5, 5, 5, 5, 5, 5, 5, 5, 5, 5, 5, 5, 6, 6, 6, 6, 6, 6, 6, 6, 6, 6, 6, 6, 6, 6, 6, 6, 6, 6, 6, 6, 6, 6, 6, 6, 6, 6, 6, 6, 6, 6, 6, 6, 7, 7, 7, 7, 7, 7, 7, 7, 7, 7, 7, 7, 7, 7, 7, 7, 7, 7, 7, 7, 7, 7, 7, 7, 7, 7, 7, 7, 7, 7, 7, 7, 7, 7, 7, 7, 7, 7, 7, 7, 7, 7, 7, 7, 7, 7, 7, 7, 7, 7, 7, 7, 7, 7, 7, 7, 7, 7, 7, 7, 7, 7, 7, 7, 8, 8, 8, 8, 8, 8, 8, 8, 8, 8, 8, 8, 8, 8, 8, 8, 8, 8, 8, 8, 8, 8, 8, 8, 8, 8, 8, 8, 8, 8, 8, 8, 8, 8, 8, 8, 8, 8, 8, 8, 8, 8, 8, 8, 8, 8, 8, 8, 8, 8, 8, 8, 8, 8, 8, 8, 8, 8, 8, 8, 8, 8, 8, 8, 8, 8, 8, 8, 8, 8, 8, 8, 8, 8, 8, 8, 8, 8, 8, 8, 8, 8, 8, 8, 8, 8, 8, 8, 8, 8, 8, 8, 8, 8, 8, 8, 8, 8, 8, 8, 8, 8, 8, 8, 8, 8, 8, 8, 8, 8, 8, 8, 8, 8, 8, 8, 8, 8, 8, 8, 8, 8, 8, 8, 8, 8, 8, 8]), .t 21], none⟩,
        ⟨some 23, .lt (.cvi .i64) [.t 22], none⟩,
        ⟨some 24, .lt (.bin .add) [.t 19, .t 23], none⟩,
        ⟨some 2, .lt .mv [.t 24], none⟩])
    (.ret)))))
def d73 : IFunc := ⟨25, [.t 2], e73⟩
theorem c73 : compF Tryd.prog Tryd.f73 = some d73 := by kernel_rfl
/-- internal/strconv.bool2[int] -/
def e74 : ICode :=
  .seq (.reg [⟨some 2, .lt .mv [.c (.i .i64 0)], none⟩])
    (.seq (.seq (.reg [⟨some 3, .lt .mv [.t 0], none⟩])
    (.cond (.t 3) (.seq (.reg [⟨some 2, .lt .mv [.c (.i .i64 1)], none⟩])
      (.ret))
    (.skip)))
    (.seq (.reg [⟨some 2, .lt .mv [.c (.i .i64 0)], none⟩])
    (.ret)))
def d74 : IFunc := ⟨4, [.t 2], e74⟩
theorem c74 : compF Tryd.prog Tryd.f74 = some d74 := by kernel_rfl
/-- internal/strconv.isPowerOfTwo -/
def e75 : ICode :=
  .seq (.reg [⟨some 2, .lt .mv [.c (.b false)], none⟩])
    (.seq (.reg [⟨some 3, .lt .mv [.t 0], none⟩,
        ⟨some 4, .lt .mv [.t 0], none⟩,
        ⟨some 5, .lt (.bin .sub) [.t 4, .c (.i .i64 1)], none⟩,
        ⟨some 6, .lt (.bin .and) [.t 3, .t 5], none⟩,
        ⟨some 7, .lt (.bin .eql) [.t 6, .c (.i .i64 0)], none⟩,
        ⟨some 2, .lt .mv [.t 7], none⟩])
    (.ret))
def d75 : IFunc := ⟨8, [.t 2], e75⟩
theorem c75 : compF Tryd.prog Tryd.f75 = some d75 := by kernel_rfl
/-- math/bits.TrailingZeros -/
def e76 : ICode :=
  .seq (.reg [⟨some 2, .lt .mv [.c (.i .i64 0)], none⟩])
    (.seq (.cond (.c (.b false)) (.seq (.reg [⟨some 3, .lt .mv [.t 0], none⟩,
          ⟨some 4, .lt (.cvi .u32) [.t 3], none⟩,
          ⟨some 5, .callf 80 [.t 4], none⟩,
          ⟨some 2, .lt .mv [.t 5], none⟩])
      (.ret))
    (.skip))
    (.seq (.reg [⟨some 6, .lt .mv [.t 0], none⟩,
        ⟨some 7, .callf 81 [.t 6], none⟩,
        ⟨some 2, .lt .mv [.t 7], none⟩])
    (.ret)))
def d76 : IFunc := ⟨8, [.t 2], e76⟩
theorem c76 : compF Tryd.prog Tryd.f76 = some d76 := by kernel_rfl
/-- internal/bytealg.hashStr[string] -/
def e78 : ICode :=
  .seq (.reg [⟨some 2, .lt .mv [.c (.i .u32 0)], none⟩,
        ⟨some 3, .lt .mv [.c (.i .u32 0)], none⟩])
    (.seq (.reg [⟨some 4, .lt .mv [.c (.i .u32 0)], none⟩])
    (.seq (.seq (.reg [⟨some 5, .lt .mv [.c (.i .i64 0)], none⟩])
    (.block 0 (.loop (.seq (.seq (.reg [⟨some 9, .lt .mv [.t 5], none⟩,
            ⟨some 10, .lt .mv [.t 0], none⟩,
            ⟨some 11, .lt (.len true) [.t 10], none⟩,
            ⟨some 12, .lt (.bin .lss) [.t 9, .t 11], none⟩])
        (.cond (.t 12) (.skip)
        (.exit 0)))
        (.seq (.block 1 (.reg [⟨some 15, .lt .mv [.t 4], none⟩,
              ⟨some 16, .lt (.bin .mul) [.t 15, .c (.i .u32 16777619)], none⟩,
              ⟨some 17, .lt .mv [.t 0], none⟩,
              ⟨some 18, .lt .mv [.t 5], none⟩,
              ⟨some 19, .lt .ixs [.t 17, .t 18], none⟩,
              ⟨some 20, .lt (.cvi .u32) [.t 19], none⟩,
              ⟨some 21, .lt (.bin .add) [.t 16, .t 20], none⟩,
              ⟨some 4, .lt .mv [.t 21], none⟩]))
        (.reg [⟨some 13, .lt .mv [.t 5], none⟩,
            ⟨some 14, .lt (.bin .add) [.t 13, .c (.i .i64 1)], none⟩,
            ⟨some 5, .lt .mv [.t 14], none⟩]))))))
    (.seq (.reg [⟨some 6, .lt .mv [.c (.i .u32 1)], none⟩,
        ⟨some 7, .lt .mv [.c (.i .u32 16777619)], none⟩])
    (.seq (.seq (.reg [⟨some 22, .lt .mv [.t 0], none⟩,
        ⟨some 23, .lt (.len true) [.t 22], none⟩,
        ⟨some 8, .lt .mv [.t 23], none⟩])
    (.block 2 (.loop (.seq (.seq (.reg [⟨some 24, .lt .mv [.t 8], none⟩,
            ⟨some 25, .lt (.bin .gtr) [.t 24, .c (.i .i64 0)], none⟩])
        (.cond (.t 25) (.skip)
        (.exit 2)))
        (.seq (.block 3 (.seq (.seq (.reg [⟨some 28, .lt .mv [.t 8], none⟩,
              ⟨some 29, .lt (.bin .and) [.t 28, .c (.i .i64 1)], none⟩,
              ⟨some 30, .lt (.bin .neq) [.t 29, .c (.i .i64 0)], none⟩])
          (.cond (.t 30) (.reg [⟨some 31, .lt .mv [.t 6], none⟩,
                ⟨some 32, .lt .mv [.t 7], none⟩,
                ⟨some 33, .lt (.bin .mul) [.t 31, .t 32], none⟩,
                ⟨some 6, .lt .mv [.t 33], none⟩])
          (.skip)))
          (.reg [⟨some 34, .lt .mv [.t 7], none⟩,
              ⟨some 35, .lt .mv [.t 7], none⟩,
              ⟨some 36, .lt (.bin .mul) [.t 34, .t 35], none⟩,
              ⟨some 7, .lt .mv [.t 36], none⟩])))
        (.reg [⟨some 26, .lt .mv [.t 8], none⟩,
            ⟨some 27, .lt (.bin .shr) [.t 26, .c (.i .u64 1)], none⟩,
            ⟨some 8, .lt .mv [.t 27], none⟩]))))))
    (.seq (.reg [⟨some 37, .lt .mv [.t 4], none⟩,
        ⟨some 38, .lt .mv [.t 6], none⟩,
        ⟨some 2, .lt .mv [.t 37], none⟩,
        ⟨some 3, .lt .mv [.t 38], none⟩])
    (.ret))))))
def d78 : IFunc := ⟨39, [.t 2, .t 3], e78⟩
theorem c78 : compF Tryd.prog Tryd.f78 = some d78 := by kernel_rfl
end Go.Proofs.YtmdaacajdnbegaaDoor
