/- A part of the proof that FieldsSame, called with any two lists of tags (the laid tables as the text lays them), returns true and leaves its arguments as they were. Here: the lowered code of the functions. -/
import Derived.Test.YticpmageknpcmaaGreatDoorAmE
import Derived.KernelRfl
set_option maxRecDepth 100000
set_option linter.unusedVariables false
namespace Go.AM.Fld
open Go Go.AM

def c3 : FC :=
 (.seq (.ops [])
 (.seq (.ops [.op true none (.call 4 [(.r 0), (.r 1)]),
    .op true none (.call 5 [(.r 1), (.r 2)]),
    .op true none (.bbin false (.r 1) (.r 0)),
    .op true (some ((.r 0), true)) (.mv (.r 3)),
    .op true (some ((.r 1), true)) (.mv (.r 4)),
    .op true (some ((.r 2), true)) (.call 4 [(.r 1), (.r 0)]),
    .op true none (.pick (.r 3) (.r 0) (.c (.bool false))),
    .op true (some ((.r 0), true)) (.call 6 []),
    .op true none (.pick (.r 1) (.r 0) (.c (.bool false)))])
 (.ret [.v (.r 0)])))
def c4 : FC :=
 (.seq (.ops [])
 (.seq (.ops [.op true none (.call 7 [(.r 0), (.r 1)])])
 (.ret [.v (.r 0)])))
def c5 : FC :=
 (.seq (.ops [])
 (.seq (.ops [.op true none (.call 8 [(.r 0), (.r 1)])])
 (.ret [.v (.r 0)])))
def c6 : FC :=
 (.seq (.ops [])
 (.seq (.ops [.op true none (.raw false (.build 26 #[(0, (.const (.string (bs [84, 73, 84, 76, 69])))), (1, (.const (.string (bs [97]))))]) 26 []),
    .op true none (.raw false (.build 26 #[(0, (.const (.string (bs [84, 73, 84, 76, 69])))), (1, (.const (.string (bs [98]))))]) 26 []),
    .op true none (.raw false (.buildSlice 22 2 #[(0, (.tmp 8)), (1, (.tmp 9))]) 22 [(8, (.r 1)), (9, (.r 0))])])
 (.seq (.ops [.op true none (.raw false (.build 42 #[(0, (.const (.int .i64 1)))]) 42 []),
    .op true none (.call 9 [(.r 0), (.r 1)]),
    .op true none (.ext (.r 0) 0),
    .op true none (.ext (.r 1) 1),
    .op true none (.new 42 [(.int .i64 0), (.string (bs [])), (.slice none 0 0), (.string (bs [])), (.slice none 0 0), (.slice none 0 0), (.slice none 0 0), (.int .i64 0), (.int .i64 0), (.int .i64 0), (.slice none 0 0), (.slice none 0 0), (.slice none 0 0), (.int .i64 0), (.int .i64 0), (.slice none 0 0)]),
    .op false none (.st 16 (.r 0) (.r 2))])
 (.seq (.ops [.op true none (.raw false (.build 42 #[(0, (.const (.int .i64 5)))]) 42 []),
    .op true none (.call 9 [(.r 0), (.r 6)]),
    .op true none (.ext (.r 0) 0),
    .op true none (.ext (.r 1) 1),
    .op true none (.new 42 [(.int .i64 0), (.string (bs [])), (.slice none 0 0), (.string (bs [])), (.slice none 0 0), (.slice none 0 0), (.slice none 0 0), (.int .i64 0), (.int .i64 0), (.int .i64 0), (.slice none 0 0), (.slice none 0 0), (.slice none 0 0), (.int .i64 0), (.int .i64 0), (.slice none 0 0)]),
    .op false none (.st 16 (.r 0) (.r 2))])
 (.seq (.ops [.op true none (.raw false (.build 42 #[(0, (.const (.int .i64 5)))]) 42 []),
    .op true none (.raw false (.build 26 #[(0, (.const (.string (bs [84, 105, 116, 108, 101])))), (1, (.const (.string (bs [97]))))]) 26 []),
    .op true none (.raw false (.buildSlice 22 1 #[(0, (.tmp 25))]) 22 [(25, (.r 0))]),
    .op true none (.call 9 [(.r 2), (.r 0)]),
    .op true none (.ext (.r 0) 0),
    .op true none (.ext (.r 1) 1),
    .op true none (.new 42 [(.int .i64 0), (.string (bs [])), (.slice none 0 0), (.string (bs [])), (.slice none 0 0), (.slice none 0 0), (.slice none 0 0), (.int .i64 0), (.int .i64 0), (.int .i64 0), (.slice none 0 0), (.slice none 0 0), (.slice none 0 0), (.int .i64 0), (.int .i64 0), (.slice none 0 0)]),
    .op false none (.st 16 (.r 0) (.r 2))])
 (.seq (.ops [.op true none (.bin .eql (.r 13) (.c (.int .i64 0))),
    .op true (some ((.r 0), true)) (.fad 1 (.r 13)),
    .op true (some ((.r 1), true)) (.fad 1 (.r 0)),
    .op true (some ((.r 2), true)) (.ld (.r 0)),
    .op true (some ((.r 3), true)) (.lenL (.r 0)),
    .op true (some ((.r 4), true)) (.bin .eql (.r 0) (.c (.int .i64 1))),
    .op true none (.pick (.r 5) (.r 0) (.c (.bool false))),
    .op true (some ((.r 0), true)) (.fad 1 (.r 19)),
    .op true (some ((.r 1), true)) (.fad 1 (.r 0)),
    .op true (some ((.r 2), true)) (.ld (.r 0)),
    .op true (some ((.r 3), true)) (.iad 3 (.r 0) (.c (.int .i64 0))),
    .op true (some ((.r 4), true)) (.fad 0 (.r 0)),
    .op true (some ((.r 5), true)) (.ld (.r 0)),
    .op true (some ((.r 6), true)) (.bin .eql (.r 0) (.c (.string (bs [76, 73, 83, 84])))),
    .op true none (.pick (.r 7) (.r 0) (.c (.bool false))),
    .op true (some ((.r 0), true)) (.lda 16 (.r 27)),
    .op true (some ((.r 1), true)) (.call 10 [(.r 0)]),
    .op true (some ((.r 2), true)) (.mv (.r 34)),
    .op true (some ((.r 3), true)) (.call 4 [(.r 1), (.r 0)]),
    .op true none (.pick (.r 4) (.r 0) (.c (.bool false))),
    .op true (some ((.r 0), true)) (.mv (.r 28)),
    .op true (some ((.r 1), true)) (.bin .eql (.r 0) (.c (.int .i64 0))),
    .op true none (.pick (.r 2) (.r 0) (.c (.bool false))),
    .op true (some ((.r 0), true)) (.fad 13 (.r 30)),
    .op true (some ((.r 1), true)) (.fad 2 (.r 0)),
    .op true (some ((.r 2), true)) (.ld (.r 0)),
    .op true (some ((.r 3), true)) (.lenL (.r 0)),
    .op true (some ((.r 4), true)) (.bin .eql (.r 0) (.c (.int .i64 1))),
    .op true none (.pick (.r 5) (.r 0) (.c (.bool false))),
    .op true (some ((.r 0), true)) (.fad 13 (.r 36)),
    .op true (some ((.r 1), true)) (.fad 2 (.r 0)),
    .op true (some ((.r 2), true)) (.ld (.r 0)),
    .op true (some ((.r 3), true)) (.iad 3 (.r 0) (.c (.int .i64 0))),
    .op true (some ((.r 4), true)) (.fad 2 (.r 0)),
    .op true (some ((.r 5), true)) (.ld (.r 0)),
    .op true (some ((.r 6), true)) (.bin .eql (.r 0) (.c (.string (bs [97, 0, 98])))),
    .op true none (.pick (.r 7) (.r 0) (.c (.bool false))),
    .op true (some ((.r 0), true)) (.mv (.r 38)),
    .op true (some ((.r 1), true)) (.bin .eql (.r 0) (.c (.int .i64 210))),
    .op true none (.pick (.r 2) (.r 0) (.c (.bool false))),
    .op true (some ((.r 0), true)) (.call 11 []),
    .op true (some ((.r 1), true)) (.lenL (.r 0)),
    .op true (some ((.r 2), true)) (.bin .eql (.r 0) (.c (.int .i64 6))),
    .op true none (.pick (.r 3) (.r 0) (.c (.bool false)))])
 (.ret [.v (.r 0)])))))))
def c7_1 : FC :=
 (.seq (.seq (.ops [.op true none (.bin .lss (.r 3) (.r 2))])
  (.seq (.cond (.r 0)
    (.ops [])
    (.exit 0 []))
  (.seq (.block 1 (.seq (.seq (.ops [])
     (.seq (.ops [.op true none (.iad 2 (.r 1) (.r 4)),
        .op true none (.lda 2 (.r 0)),
        .op true none (.iad 2 (.r 4) (.r 6)),
        .op true none (.lda 2 (.r 0)),
        .op true none (.sbin true [1, 1] (.r 2) (.r 0))])
     (.cond (.r 0)
      (.seq (.ops [])
      (.ret [.v (.c (.bool false))]))
      (.ops []))))
    (.ops [.shuf [(.r 6), (.r 7), (.r 8), (.r 9)]])))
  (.ops [.op true none (.bin .add (.r 3) (.c (.int .i64 1)))]))))
 (.ops [.shuf [(.r 1), (.r 2), (.r 3), (.r 0)]]))
def c7 : FC :=
 (.seq (.ops [])
 (.seq (.seq (.ops [.op true none (.lenL (.r 0)),
     .op true none (.lenL (.r 2)),
     .op true none (.bin .neq (.r 1) (.r 0))])
  (.cond (.r 0)
   (.seq (.ops [])
   (.ret [.v (.c (.bool false))]))
   (.ops [])))
 (.seq (.seq (.ops [.op true none (.lenL (.r 3))])
  (.block 0 (.seq (.ops [.shuf [(.r 4), (.r 5), (.r 0), (.c (.int .i64 0))]])
   (.loop c7_1))))
 (.seq (.ops [])
 (.ret [.v (.c (.bool true))])))))
def c8_1 : FC :=
 (.seq (.seq (.seq (.ops [.op true none (.lenL (.r 0)),
      .op true none (.bin .lss (.r 3) (.r 0))])
   (.cond (.r 0)
    (.ops [])
    (.exit 0 [])))
  (.seq (.block 1 (.seq (.seq (.ops [.op true none (.iad 2 (.r 2) (.r 4)),
        .op true none (.lda 2 (.r 0)),
        .op true none (.iad 2 (.r 5) (.r 6)),
        .op true none (.lda 2 (.r 0)),
        .op true none (.sbin true [1, 1] (.r 2) (.r 0))])
     (.cond (.r 0)
      (.seq (.ops [])
      (.ret [.v (.c (.bool false))]))
      (.ops [])))
    (.ops [.shuf [(.r 7), (.r 8), (.r 9)]])))
  (.ops [.op true none (.bin .add (.r 2) (.c (.int .i64 1)))])))
 (.ops [.shuf [(.r 1), (.r 2), (.r 0)]]))
def c8 : FC :=
 (.seq (.ops [])
 (.seq (.seq (.ops [.op true none (.lenL (.r 0)),
     .op true none (.lenL (.r 2)),
     .op true none (.bin .neq (.r 1) (.r 0))])
  (.cond (.r 0)
   (.seq (.ops [])
   (.ret [.v (.c (.bool false))]))
   (.ops [])))
 (.seq (.seq (.ops [])
  (.block 0 (.seq (.ops [.shuf [(.r 3), (.r 4), (.c (.int .i64 0))]])
   (.loop c8_1))))
 (.seq (.ops [])
 (.ret [.v (.c (.bool true))])))))
def c9_1 : FC :=
 (.seq (.seq (.ops [.op true none (.bin .lss (.r 5) (.r 4))])
  (.seq (.cond (.r 0)
    (.ops [])
    (.exit 0 [(.r 1), (.r 2), (.r 3)]))
  (.seq (.block 1 (.seq (.seq (.ops [.op true none (.iad 2 (.r 4) (.r 6)),
        .op true none (.lda 2 (.r 0)),
        .op true none (.new 26 [(.string (bs [])), (.string (bs []))]),
        .op false none (.st 2 (.r 0) (.r 1))])
     (.seq (.ops [.op true none (.fad 0 (.r 0)),
        .op true none (.ld (.r 0)),
        .op true none (.call 11 []),
        .chk none (.ld (.r 2)) (.r 1),
        .chk none (.fad 0 (.r 3)) (.r 2),
        .op true none (.call 12 [(.r 0), (.r 1)]),
        .op true none (.nt (.r 0)),
        .op true (some ((.r 0), false)) (.fad 1 (.r 5)),
        .op true (some ((.r 1), false)) (.ld (.r 0)),
        .op true (some ((.r 2), false)) (.call 13 [(.r 0)]),
        .op true (some ((.r 3), false)) (.nt (.r 0)),
        .op true none (.pick (.r 4) (.c (.bool true)) (.r 0))])
     (.cond (.r 0)
      (.seq (.ops [.op true none (.raw false (.build 42 #[]) 42 []),
         .op false none (.st 16 (.r 17) (.r 0))])
      (.ret [.a 16 (.r 17), .v (.c (.int .i64 210))]))
      (.ops []))))
    (.ops [.shuf [(.r 14), (.r 15), (.r 16), (.r 17), (.r 18), (.r 19)]])))
  (.ops [.op true none (.bin .add (.r 5) (.c (.int .i64 1)))]))))
 (.ops [.shuf [(.r 1), (.r 2), (.r 3), (.r 4), (.r 5), (.r 0)]]))
def c9 : FC :=
 (.seq (.ops [.op true none (.box 42 (.r 0)),
    .op true none (.new 42 [(.int .i64 0), (.string (bs [])), (.slice none 0 0), (.string (bs [])), (.slice none 0 0), (.slice none 0 0), (.slice none 0 0), (.int .i64 0), (.int .i64 0), (.int .i64 0), (.slice none 0 0), (.slice none 0 0), (.slice none 0 0), (.int .i64 0), (.int .i64 0), (.slice none 0 0)])])
 (.seq (.seq (.ops [.op true none (.lenL (.r 3))])
  (.block 0 (.seq (.ops [.shuf [(.r 4), (.r 2), (.r 1), (.r 4), (.r 0), (.c (.int .i64 0))]])
   (.loop c9_1))))
 (.seq (.seq (.ops [.op true none (.lenL (.r 0)),
     .op true none (.bin .eql (.r 0) (.c (.int .i64 0)))])
  (.cond (.r 0)
   (.seq (.ops [.op true none (.lda 16 (.r 3)),
      .op false none (.st 16 (.r 5) (.r 0))])
   (.ret [.a 16 (.r 5), .v (.c (.int .i64 0))]))
   (.ops [])))
 (.seq (.seq (.ops [.op true none (.fad 0 (.r 3)),
     .op true none (.ld (.r 0)),
     .op true none (.bin .lss (.r 0) (.c (.int .i64 1))),
     .op true (some ((.r 0), false)) (.fad 0 (.r 6)),
     .op true (some ((.r 1), false)) (.ld (.r 0)),
     .op true (some ((.r 2), false)) (.bin .gtr (.r 0) (.c (.int .i64 5))),
     .op true none (.pick (.r 3) (.c (.bool true)) (.r 0)),
     .op true (some ((.r 0), false)) (.lda 16 (.r 10)),
     .op true (some ((.r 1), false)) (.call 14 [(.r 0)]),
     .op true none (.pick (.r 2) (.c (.bool true)) (.r 0))])
  (.cond (.r 0)
   (.seq (.ops [.op true none (.raw false (.build 42 #[]) 42 []),
      .op false none (.st 16 (.r 15) (.r 0))])
   (.ret [.a 16 (.r 15), .v (.c (.int .i64 60))]))
   (.ops [])))
 (.seq (.ops [.op true none (.fad 0 (.r 13)),
    .op true none (.ld (.r 0)),
    .op true none (.call 15 [(.r 0)])])
 (.seq (.ops [.op true none (.new 42 [(.int .i64 0), (.string (bs [])), (.slice none 0 0), (.string (bs [])), (.slice none 0 0), (.slice none 0 0), (.slice none 0 0), (.int .i64 0), (.int .i64 0), (.int .i64 0), (.slice none 0 0), (.slice none 0 0), (.slice none 0 0), (.int .i64 0), (.int .i64 0), (.slice none 0 0)])])
 (.seq (.ops [])
 (.seq (.seq (.ops [.op true none (.fad 0 (.r 17)),
     .op true none (.ld (.r 0))])
  (.block 2 (.seq (.seq (.ops [.op true none (.bin .eql (.r 0) (.c (.int .i64 1)))])
    (.cond (.r 0)
     (.seq (.ops [.op true none (.lda 16 (.r 20)),
        .op true none (.call 16 [(.r 0), (.r 20), (.r 5)]),
        .op true none (.ext (.r 0) 0),
        .op true none (.ext (.r 1) 1),
        .op false none (.st 16 (.r 7) (.r 1))])
     (.ops [.shuf [(.r 25), (.r 7), (.r 0)]]))
     (.seq (.seq (.ops [.op true none (.bin .eql (.r 1) (.c (.int .i64 2)))])
      (.cond (.r 0)
       (.seq (.ops [.op true none (.lda 16 (.r 21)),
          .op true none (.call 17 [(.r 0), (.r 21), (.r 6)]),
          .op true none (.ext (.r 0) 0),
          .op true none (.ext (.r 1) 1),
          .op false none (.st 16 (.r 8) (.r 1))])
       (.ops [.shuf [(.r 26), (.r 8), (.r 0)]]))
       (.seq (.seq (.ops [.op true none (.bin .eql (.r 2) (.c (.int .i64 5)))])
        (.cond (.r 0)
         (.seq (.ops [.op true none (.lda 16 (.r 22)),
            .op true none (.call 18 [(.r 0), (.r 22), (.r 7)]),
            .op true none (.ext (.r 0) 0),
            .op true none (.ext (.r 1) 1),
            .op false none (.st 16 (.r 9) (.r 1))])
         (.ops [.shuf [(.r 27), (.r 9), (.r 0)]]))
         (.seq (.ops [.op true none (.lda 16 (.r 22)),
            .op true none (.call 19 [(.r 0), (.r 22)]),
            .op true none (.ext (.r 0) 0),
            .op true none (.ext (.r 1) 1),
            .op false none (.st 16 (.r 9) (.r 1))])
         (.ops [.shuf [(.r 27), (.r 9), (.r 0)]]))))
       (.ops [.shuf [(.r 0), (.r 1), (.r 2)]]))))
     (.ops [.shuf [(.r 0), (.r 1), (.r 2)]]))))
   (.ops [.shuf [(.r 0), (.r 1), (.r 2)]]))))
 (.seq (.seq (.ops [.op true none (.bin .neq (.r 2) (.c (.int .i64 0)))])
  (.cond (.r 0)
   (.seq (.ops [.op true none (.raw false (.build 42 #[]) 42 []),
      .op false none (.st 16 (.r 2) (.r 0))])
   (.ret [.a 16 (.r 2), .v (.r 4)]))
   (.ops [])))
 (.seq (.ops [.op true none (.lda 16 (.r 2)),
    .op false none (.st 16 (.r 2) (.r 0))])
 (.ret [.a 16 (.r 2), .v (.c (.int .i64 0))])))))))))))
def c11 : FC :=
 (.seq (.ops [])
 (.seq (.ops [.op true none (.raw false (.buildSlice 51 6 #[(0, (.const (.string (bs [84, 73, 84, 76, 69])))), (1, (.const (.string (bs [65, 82, 84, 73, 83, 84])))), (2, (.const (.string (bs [65, 76, 66, 85, 77])))), (3, (.const (.string (bs [84, 82, 65, 67, 75, 78, 85, 77, 66, 69, 82])))), (4, (.const (.string (bs [68, 65, 84, 69])))), (5, (.const (.string (bs [71, 69, 78, 82, 69]))))]) 51 [])])
 (.ret [.v (.r 0)])))
def c12 : FC :=
 (.seq (.ops [])
 (.seq (.ops [.op true none (.call 21 [(.r 0), (.r 1)]),
    .op true none (.bin .geq (.r 0) (.c (.int .i64 0)))])
 (.ret [.v (.r 0)])))
def c13 : FC :=
 (.seq (.ops [])
 (.seq (.ops [.op true none (.call 22 [(.r 0)]),
    .op true (some ((.r 0), true)) (.mv (.r 1)),
    .op true (some ((.r 1), true)) (.call 23 [(.r 0), (.c (.string (bs [0])))]),
    .op true (some ((.r 2), true)) (.nt (.r 0)),
    .op true none (.pick (.r 3) (.r 0) (.c (.bool false)))])
 (.ret [.v (.r 0)])))
def c14 : FC :=
 (.seq (.ops [.op true none (.box 42 (.r 0))])
 (.seq (.seq (.ops [.op true none (.fad 0 (.r 0)),
     .op true none (.ld (.r 0))])
  (.block 0 (.seq (.seq (.ops [.op true none (.bin .eql (.r 0) (.c (.int .i64 1)))])
    (.cond (.r 0)
     (.seq (.ops [.op true none (.fad 1 (.r 3)),
        .op true none (.fad 1 (.r 0)),
        .op true none (.ld (.r 0)),
        .op true none (.call 24 [(.r 0), (.c (.func (.func 25) #[] #[]))])])
     (.ret [.v (.r 0)]))
     (.seq (.ops [.op true none (.bin .eql (.r 1) (.c (.int .i64 2)))])
     (.cond (.r 0)
      (.seq (.ops [.op true none (.fad 3 (.r 4)),
         .op true none (.fad 1 (.r 0)),
         .op true none (.ld (.r 0)),
         .op true none (.call 24 [(.r 0), (.c (.func (.func 27) #[] #[]))])])
      (.ret [.v (.r 0)]))
      (.seq (.seq (.ops [.op true none (.bin .eql (.r 2) (.c (.int .i64 3)))])
       (.cond (.r 0)
        (.seq (.ops [])
        (.ops [.shuf [(.r 5), (.r 0)]]))
        (.seq (.ops [.op true none (.bin .eql (.r 3) (.c (.int .i64 4)))])
        (.ops [.shuf [(.r 6), (.r 0)]]))))
      (.cond (.r 1)
       (.seq (.ops [.op true none (.call 29 [(.r 0)]),
          .op true none (.nilc (.r 0)),
          .op true none (.ld (.r 0)),
          .op true none (.call 28 [(.r 0), (.c (.func (.func 30) #[] #[]))])])
       (.ret [.v (.r 0)]))
       (.ops [])))))))
   (.ops [.shuf [(.r 0)]]))))
 (.seq (.ops [.op true none (.fad 0 (.r 0)),
    .op true none (.ld (.r 0)),
    .op true none (.call 15 [(.r 0)]),
    .op true none (.new 56 [(.map none)]),
    .op false none (.st 1 (.r 0) (.r 1))])
 (.seq (.ops [.op true none (.fad 13 (.r 4)),
    .op true none (.fad 2 (.r 0)),
    .op true none (.ld (.r 0)),
    .op true none (.raw false (.makeFunc (.func 32) #[] #[(.tmp 3)]) 73 [(3, (.r 3))]),
    .op true none (.call 31 [(.r 1), (.r 0)])])
 (.ret [.v (.r 0)])))))
def c15_1 : FC :=
 (.seq (.seq (.ops [.op true none (.bin .lss (.r 4) (.r 3))])
  (.seq (.cond (.r 0)
    (.ops [])
    (.exit 1 [(.r 2)]))
  (.seq (.block 2 (.seq (.seq (.ops [.op true none (.iad 1 (.r 3) (.r 5)),
        .op true none (.ld (.r 0))])
     (.ops [.op true none (.iad 1 (.r 3) (.r 7)),
       .op true none (.ld (.r 0)),
       .op false none (.raw false (.mapUpdate 56 (.tmp 26) (.tmp 27) (.tmp 31)) 0 [(26, (.r 6)), (27, (.r 2)), (31, (.r 0))])]))
    (.ops [.shuf [(.r 5), (.r 6), (.r 7), (.r 8), (.r 9)]])))
  (.ops [.op true none (.bin .add (.r 4) (.c (.int .i64 1)))]))))
 (.ops [.shuf [(.r 1), (.r 2), (.r 3), (.r 4), (.r 0)]]))
def c15 : FC :=
 (.seq (.ops [])
 (.seq (.ops [])
 (.seq (.seq (.ops [])
  (.block 0 (.seq (.seq (.ops [.op true none (.bin .eql (.r 0) (.c (.int .i64 1)))])
    (.cond (.r 0)
     (.seq (.ops [.op true none (.raw false (.buildSlice 51 6 #[(0, (.const (.string (bs [73, 78, 65, 77])))), (1, (.const (.string (bs [73, 65, 82, 84])))), (2, (.const (.string (bs [73, 80, 82, 68])))), (3, (.const (.string (bs [73, 84, 82, 75])))), (4, (.const (.string (bs [73, 67, 82, 68])))), (5, (.const (.string (bs [73, 71, 78, 82]))))]) 51 [])])
     (.ops [.shuf [(.r 0)]]))
     (.seq (.seq (.ops [.op true none (.bin .eql (.r 1) (.c (.int .i64 2)))])
      (.cond (.r 0)
       (.seq (.ops [.op true none (.raw false (.buildSlice 51 6 #[(0, (.const (.string (bs [84, 73, 84, 50])))), (1, (.const (.string (bs [84, 80, 69, 49])))), (2, (.const (.string (bs [84, 65, 76, 66])))), (3, (.const (.string (bs [84, 82, 67, 75])))), (4, (.const (.string (bs [84, 68, 82, 67])))), (5, (.const (.string (bs [84, 67, 79, 78]))))]) 51 [])])
       (.ops [.shuf [(.r 0)]]))
       (.seq (.seq (.ops [.op true none (.bin .eql (.r 2) (.c (.int .i64 5)))])
        (.cond (.r 0)
         (.seq (.ops [.op true none (.raw false (.buildSlice 51 6 #[(0, (.const (.string (bs [84, 105, 116, 108, 101])))), (1, (.const (.string (bs [65, 114, 116, 105, 115, 116])))), (2, (.const (.string (bs [65, 108, 98, 117, 109])))), (3, (.const (.string (bs [84, 114, 97, 99, 107])))), (4, (.const (.string (bs [89, 101, 97, 114])))), (5, (.const (.string (bs [71, 101, 110, 114, 101]))))]) 51 [])])
         (.ops [.shuf [(.r 0)]]))
         (.seq (.ops [.op true none (.call 11 [])])
         (.ops [.shuf [(.r 0)]]))))
       (.ops [.shuf [(.r 0)]]))))
     (.ops [.shuf [(.r 0)]]))))
   (.ops [.shuf [(.r 0)]]))))
 (.seq (.ops [.op true none (.raw false (.makeMap 56 none) 56 [])])
 (.seq (.seq (.ops [.op true none (.call 11 []),
     .op true none (.lenL (.r 0))])
  (.block 1 (.seq (.ops [.shuf [(.r 3), (.r 2), (.r 1), (.r 0), (.c (.int .i64 0))]])
   (.loop c15_1))))
 (.seq (.ops [])
 (.ret [.v (.r 0)])))))))
def c16_1 : FC :=
 (.seq (.seq (.ops [.op true none (.bin .lss (.r 6) (.r 5))])
  (.seq (.cond (.r 0)
    (.ops [])
    (.exit 0 [(.r 2), (.r 3), (.r 4)]))
  (.seq (.block 1 (.seq (.seq (.ops [.op true none (.iad 2 (.r 5) (.r 7)),
        .op true none (.lda 2 (.r 0)),
        .op true none (.new 26 [(.string (bs [])), (.string (bs []))]),
        .op false none (.st 2 (.r 0) (.r 1))])
     (.ops [.op true none (.fad 0 (.r 0)),
       .op true none (.ld (.r 0)),
       .op true none (.raw false (.lookup 56 (.tmp 20) (.tmp 22) false) 9 [(20, (.r 6)), (22, (.r 0))]),
       .op true none (.fad 1 (.r 3)),
       .op true none (.ld (.r 0)),
       .op true none (.raw false (.build 26 #[(0, (.tmp 23)), (1, (.tmp 25))]) 26 [(23, (.r 2)), (25, (.r 0))]),
       .op true none (.raw false (.buildSlice 22 1 #[(0, (.tmp 26))]) 22 [(26, (.r 0))]),
       .op true none (.raw false (.call ⟨.builtin .append, #[(.tmp 19), (.tmp 27)], #[22, 22]⟩) 22 [(19, (.r 14)), (27, (.r 0))])]))
    (.ops [.shuf [(.r 12), (.r 13), (.r 14), (.r 0), (.r 16), (.r 17), (.r 18)]])))
  (.ops [.op true none (.bin .add (.r 6) (.c (.int .i64 1)))]))))
 (.ops [.shuf [(.r 1), (.r 2), (.r 3), (.r 4), (.r 5), (.r 6), (.r 0)]]))
def c16 : FC :=
 (.seq (.ops [.op true none (.box 42 (.r 0)),
    .op true none (.new 42 [(.int .i64 0), (.string (bs [])), (.slice none 0 0), (.string (bs [])), (.slice none 0 0), (.slice none 0 0), (.slice none 0 0), (.int .i64 0), (.int .i64 0), (.int .i64 0), (.slice none 0 0), (.slice none 0 0), (.slice none 0 0), (.int .i64 0), (.int .i64 0), (.slice none 0 0)])])
 (.seq (.ops [])
 (.seq (.seq (.ops [.op true none (.lenL (.r 3))])
  (.block 0 (.seq (.ops [.shuf [(.r 5), (.r 2), (.r 1), (.c (.slice none 0 0)), (.r 4), (.r 0), (.c (.int .i64 0))]])
   (.loop c16_1))))
 (.seq (.ops [.op true none (.call 35 [(.r 2)]),
    .op true none (.ext (.r 0) 0),
    .op true none (.ext (.r 1) 1)])
 (.seq (.ops [.op true none (.fad 1 (.r 3)),
    .op true none (.fad 1 (.r 0)),
    .op true none (.ld (.r 0)),
    .op true none (.raw false (.build 47 #[(0, (.const (.string (bs [76, 73, 83, 84])))), (1, (.tmp 38))]) 47 [(38, (.r 4))]),
    .op true none (.raw false (.buildSlice 27 1 #[(0, (.tmp 39))]) 27 [(39, (.r 0))]),
    .op true none (.call 36 [(.r 2), (.r 0)]),
    .op true none (.fad 1 (.r 9)),
    .op true none (.fad 1 (.r 0)),
    .op false none (.st 1 (.r 0) (.r 2))])
 (.seq (.ops [.op true none (.lda 16 (.r 11)),
    .op false none (.st 16 (.r 13) (.r 0))])
 (.ret [.a 16 (.r 13), .v (.r 9)])))))))
def c18_1 : FC :=
 (.seq (.seq (.ops [.op true none (.bin .lss (.r 7) (.r 6))])
  (.seq (.cond (.r 0)
    (.ops [])
    (.exit 0 [(.r 3), (.r 4), (.r 5)]))
  (.seq (.block 1 (.seq (.seq (.ops [.op true none (.iad 1 (.r 6) (.r 8)),
        .op true none (.ld (.r 0))])
     (.seq (.ops [.op true none (.call 37 [(.r 3), (.r 0)])])
     (.seq (.ops [.op true none (.lenL (.r 0)),
        .op true none (.bin .gtr (.r 0) (.c (.int .i64 0)))])
     (.cond (.r 0)
      (.seq (.ops [.op true none (.raw true (.lookup 56 (.tmp 27) (.tmp 28) false) 9 [(27, (.r 7)), (28, (.r 3))]),
         .op true none (.call 40 [(.r 3)]),
         .chk none (.raw true (.lookup 56 (.tmp 27) (.tmp 28) false) 9 [(27, (.r 9)), (28, (.r 5))]) (.r 1),
         .chk none (.mv (.r 5)) (.r 5),
         .chk none (.mv (.r 9)) (.r 9),
         .chk none (.mv (.r 12)) (.r 12),
         .op true none (.raw true (.build 50 #[(0, (.tmp 29)), (2, (.tmp 31))]) 50 [(29, (.r 1)), (31, (.r 0))]),
         .op true none (.raw false (.buildSlice 38 1 #[(0, (.tmp 32))]) 38 [(32, (.r 0))]),
         .chk none (.mv (.r 14)) (.r 14),
         .op true none (.raw false (.call ⟨.builtin .append, #[(.tmp 26), (.tmp 33)], #[38, 38]⟩) 38 [(26, (.r 14)), (33, (.r 0))])])
      (.ops [.shuf [(.r 11), (.r 12), (.r 13), (.r 14), (.r 0), (.r 16), (.r 17), (.r 18)]]))
      (.seq (.ops [])
      (.ops [.shuf [(.r 6), (.r 7), (.r 8), (.r 9), (.r 10), (.r 11), (.r 12), (.r 13)]]))))))
    (.ops [.shuf [(.r 0), (.r 1), (.r 2), (.r 3), (.r 4), (.r 5), (.r 6), (.r 7)]])))
  (.ops [.op true none (.bin .add (.r 7) (.c (.int .i64 1)))]))))
 (.ops [.shuf [(.r 1), (.r 2), (.r 3), (.r 4), (.r 5), (.r 6), (.r 7), (.r 0)]]))
def c18 : FC :=
 (.seq (.ops [.op true none (.box 42 (.r 0)),
    .op true none (.new 42 [(.int .i64 0), (.string (bs [])), (.slice none 0 0), (.string (bs [])), (.slice none 0 0), (.slice none 0 0), (.slice none 0 0), (.int .i64 0), (.int .i64 0), (.int .i64 0), (.slice none 0 0), (.slice none 0 0), (.slice none 0 0), (.int .i64 0), (.int .i64 0), (.slice none 0 0)])])
 (.seq (.ops [])
 (.seq (.seq (.ops [.op true none (.call 11 []),
     .op true none (.lenL (.r 0))])
  (.block 0 (.seq (.ops [.shuf [(.r 5), (.r 6), (.r 3), (.r 2), (.c (.slice none 0 0)), (.r 1), (.r 0), (.c (.int .i64 0))]])
   (.loop c18_1))))
 (.seq (.ops [.op true none (.fad 13 (.r 0)),
    .op true none (.fad 2 (.r 0)),
    .op true none (.ld (.r 0)),
    .op true none (.call 41 [(.r 0), (.r 5)]),
    .op true none (.fad 13 (.r 4)),
    .op true none (.fad 2 (.r 0)),
    .op false none (.st 1 (.r 0) (.r 2))])
 (.seq (.ops [.op true none (.fad 13 (.r 6)),
    .op true none (.fad 2 (.r 0)),
    .op true none (.ld (.r 0)),
    .op true none (.call 42 [(.r 0)]),
    .op true none (.ext (.r 0) 0),
    .op true none (.ext (.r 1) 1)])
 (.seq (.ops [.op true none (.lda 16 (.r 12)),
    .op false none (.st 16 (.r 14) (.r 0))])
 (.ret [.a 16 (.r 14), .v (.r 1)])))))))
def c20 : FC :=
 (.seq (.ops [.op true none (.box 42 (.r 0))])
 (.seq (.seq (.ops [.op true none (.fad 0 (.r 0)),
     .op true none (.ld (.r 0))])
  (.block 0 (.seq (.seq (.ops [.op true none (.bin .eql (.r 0) (.c (.int .i64 1)))])
    (.cond (.r 0)
     (.seq (.ops [.op true none (.fad 1 (.r 3)),
        .op true none (.fad 1 (.r 0)),
        .op true none (.ld (.r 0)),
        .op true none (.call 45 [(.r 0), (.r 8)])])
     (.ret [.v (.r 0)]))
     (.seq (.ops [.op true none (.bin .eql (.r 1) (.c (.int .i64 2)))])
     (.cond (.r 0)
      (.seq (.ops [.op true none (.fad 3 (.r 4)),
         .op true none (.fad 1 (.r 0)),
         .op true none (.ld (.r 0)),
         .op true none (.call 46 [(.r 0), (.r 9)])])
      (.ret [.v (.r 0)]))
      (.seq (.seq (.ops [.op true none (.bin .eql (.r 2) (.c (.int .i64 3)))])
       (.cond (.r 0)
        (.seq (.ops [])
        (.ops [.shuf [(.r 7), (.r 5), (.r 3), (.r 0)]]))
        (.seq (.ops [.op true none (.bin .eql (.r 3) (.c (.int .i64 4)))])
        (.ops [.shuf [(.r 8), (.r 6), (.r 4), (.r 0)]]))))
      (.cond (.r 3)
       (.seq (.ops [.op true none (.call 29 [(.r 1)]),
          .op true none (.nilc (.r 0)),
          .op true none (.ld (.r 0)),
          .op true none (.call 47 [(.r 0), (.r 3)])])
       (.ret [.v (.r 0)]))
       (.seq (.ops [.op true none (.bin .eql (.r 2) (.c (.int .i64 5)))])
       (.cond (.r 0)
        (.seq (.ops [.op true none (.fad 13 (.r 2)),
           .op true none (.fad 2 (.r 0)),
           .op true none (.ld (.r 0)),
           .op true none (.call 48 [(.r 0), (.r 4)])])
        (.ret [.v (.r 0)]))
        (.ops [])))))))))
   (.ops [.shuf []]))))
 (.seq (.ops [])
 (.ret [.v (.c (.slice none 0 0))]))))
def c21_1 : FC :=
 (.seq (.seq (.ops [.op true none (.bin .lss (.r 3) (.r 2))])
  (.seq (.cond (.r 0)
    (.ops [])
    (.exit 0 []))
  (.seq (.block 1 (.seq (.seq (.ops [])
     (.seq (.ops [.op true none (.iad 1 (.r 1) (.r 4)),
        .op true none (.ld (.r 0)),
        .op true none (.bin .eql (.r 4) (.r 0))])
     (.cond (.r 0)
      (.seq (.ops [])
      (.ret [.v (.r 7)]))
      (.ops []))))
    (.ops [.shuf [(.r 4), (.r 5), (.r 6), (.r 7)]])))
  (.ops [.op true none (.bin .add (.r 3) (.c (.int .i64 1)))]))))
 (.ops [.shuf [(.r 1), (.r 2), (.r 3), (.r 0)]]))
def c21 : FC :=
 (.seq (.ops [])
 (.seq (.seq (.ops [.op true none (.lenL (.r 0))])
  (.block 0 (.seq (.ops [.shuf [(.r 1), (.r 2), (.r 0), (.c (.int .i64 0))]])
   (.loop c21_1))))
 (.seq (.ops [])
 (.ret [.v (.c (.int .i64 (-1)))]))))
def c22_1 : FC :=
 (.seq (.seq (.seq (.ops [.op true none (.lenS (.r 0)),
      .op true none (.bin .gtr (.r 0) (.c (.int .i64 32))),
      .op true (some ((.r 0), true)) (.mv (.r 2)),
      .op true (some ((.r 1), true)) (.mv (.r 3)),
      .op true (some ((.r 2), true)) (.sls (.r 0) (some (.c (.int .i64 8))) none),
      .op true (some ((.r 3), true)) (.mv (.r 5)),
      .op true (some ((.r 4), true)) (.sls (.r 0) (some (.c (.int .i64 16))) none),
      .op true (some ((.r 5), true)) (.mv (.r 7)),
      .op true (some ((.r 6), true)) (.sls (.r 0) (some (.c (.int .i64 24))) none),
      .op true (some ((.r 7), true)) (.call 49 [(.r 6)]),
      .chk (some ((.r 8), true)) (.sls (.r 2) (some (.c (.int .i64 24))) none) (.r 1),
      .chk (some ((.r 8), true)) (.mv (.r 10)) (.r 2),
      .chk (some ((.r 8), true)) (.sls (.r 4) (some (.c (.int .i64 16))) none) (.r 3),
      .chk (some ((.r 8), true)) (.mv (.r 10)) (.r 4),
      .chk (some ((.r 8), true)) (.sls (.r 6) (some (.c (.int .i64 8))) none) (.r 5),
      .chk (some ((.r 8), true)) (.mv (.r 10)) (.r 6),
      .op true (some ((.r 8), true)) (.call 49 [(.r 5)]),
      .chk (some ((.r 9), true)) (.sls (.r 3) (some (.c (.int .i64 24))) none) (.r 2),
      .chk (some ((.r 9), true)) (.mv (.r 11)) (.r 3),
      .chk (some ((.r 9), true)) (.sls (.r 5) (some (.c (.int .i64 16))) none) (.r 4),
      .chk (some ((.r 9), true)) (.mv (.r 11)) (.r 5),
      .op true (some ((.r 9), true)) (.bin .or (.r 1) (.r 0)),
      .op true (some ((.r 10), true)) (.call 49 [(.r 5)]),
      .chk (some ((.r 11), true)) (.bin .or (.r 3) (.r 2)) (.r 1),
      .chk (some ((.r 11), true)) (.sls (.r 5) (some (.c (.int .i64 24))) none) (.r 4),
      .chk (some ((.r 11), true)) (.mv (.r 13)) (.r 5),
      .op true (some ((.r 11), true)) (.call 49 [(.r 4)]),
      .chk (some ((.r 12), true)) (.bin .or (.r 4) (.r 3)) (.r 2),
      .op true (some ((.r 12), true)) (.bin .or (.r 1) (.r 0)),
      .op true (some ((.r 13), true)) (.bin .or (.r 3) (.r 0)),
      .op true (some ((.r 14), true)) (.bin .and (.r 0) (.c (.int .u64 9259542123273814144))),
      .op true (some ((.r 15), true)) (.bin .eql (.r 0) (.c (.int .u64 0))),
      .op true none (.pick (.r 16) (.r 0) (.c (.bool false)))])
   (.cond (.r 0)
    (.ops [])
    (.exit 2 [(.r 19)])))
  (.block 3 (.seq (.ops [.op true none (.sls (.r 19) (some (.c (.int .i64 32))) none)])
   (.ops [.shuf [(.r 0)]]))))
 (.ops [.shuf [(.r 0)]]))
def c22_2 : FC :=
 (.seq (.seq (.seq (.ops [.op true none (.lenS (.r 0)),
      .op true none (.bin .gtr (.r 0) (.c (.int .i64 0)))])
   (.cond (.r 0)
    (.ops [])
    (.exit 0 [])))
  (.block 1 (.seq (.seq (.ops [.op true none (.ixs (.r 2) (.c (.int .i64 0)))])
    (.seq (.seq (.ops [.op true none (.bin .lss (.r 0) (.c (.int .u8 128)))])
     (.cond (.r 0)
      (.seq (.ops [.op true none (.sls (.r 4) (some (.c (.int .i64 1))) none)])
      (.seq (.seq (.ops [.op true none (.lenS (.r 0)),
          .op true none (.bin .gtr (.r 0) (.c (.int .i64 8))),
          .op true (some ((.r 0), true)) (.mv (.r 2)),
          .op true (some ((.r 1), true)) (.call 49 [(.r 0)]),
          .op true (some ((.r 2), true)) (.bin .and (.r 0) (.c (.int .u64 9259542123273814144))),
          .op true (some ((.r 3), true)) (.bin .eql (.r 0) (.c (.int .u64 0))),
          .op true none (.pick (.r 4) (.r 0) (.c (.bool false)))])
       (.cond (.r 0)
        (.seq (.seq (.ops [.op true none (.sls (.r 7) (some (.c (.int .i64 8))) none)])
         (.seq (.ops [.op true none (.lenS (.r 0)),
            .op true none (.bin .gtr (.r 0) (.c (.int .i64 16))),
            .op true (some ((.r 0), true)) (.mv (.r 2)),
            .op true (some ((.r 1), true)) (.mv (.r 3)),
            .op true (some ((.r 2), true)) (.sls (.r 0) (some (.c (.int .i64 8))) none),
            .op true (some ((.r 3), true)) (.call 49 [(.r 2)]),
            .chk (some ((.r 4), true)) (.sls (.r 2) (some (.c (.int .i64 8))) none) (.r 1),
            .chk (some ((.r 4), true)) (.mv (.r 6)) (.r 2),
            .op true (some ((.r 4), true)) (.call 49 [(.r 1)]),
            .op true (some ((.r 5), true)) (.bin .or (.r 1) (.r 0)),
            .op true (some ((.r 6), true)) (.bin .and (.r 0) (.c (.int .u64 9259542123273814144))),
            .op true (some ((.r 7), true)) (.bin .eql (.r 0) (.c (.int .u64 0))),
            .op true none (.pick (.r 8) (.r 0) (.c (.bool false)))])
         (.cond (.r 0)
          (.seq (.seq (.ops [.op true none (.sls (.r 11) (some (.c (.int .i64 16))) none)])
           (.block 2 (.seq (.ops [.shuf [(.r 0)]])
            (.loop c22_1))))
          (.ops [.shuf [(.r 0)]]))
          (.seq (.ops [])
          (.ops [.shuf [(.r 11)]])))))
        (.ops [.shuf [(.r 0)]]))
        (.seq (.ops [])
        (.ops [.shuf [(.r 7)]]))))
      (.exit 1 [(.r 0)])))
      (.ops [])))
    (.seq (.ops [.op true none (.iada 256 1 (.c (.pointer (some ⟨0, 0, none⟩))) (.r 1)),
       .op true none (.ld (.r 0))])
    (.seq (.ops [.op true none (.bin .and (.r 0) (.c (.int .u8 7))),
       .op true none (.cvi .i64 (.r 0))])
    (.seq (.ops [.op true none (.bin .shr (.r 2) (.c (.int .u64 4))),
       .op true none (.iada 16 2 (.c (.pointer (some ⟨1, 0, none⟩))) (.r 0)),
       .op true none (.lda 2 (.r 0)),
       .op true none (.new 99 [(.int .u8 0), (.int .u8 0)]),
       .op false none (.st 2 (.r 0) (.r 1))])
    (.seq (.ops [])
    (.block 4 (.seq (.seq (.ops [.op true none (.bin .eql (.r 4) (.c (.int .i64 2)))])
      (.cond (.r 0)
       (.seq (.seq (.seq (.ops [.op true none (.lenS (.r 13)),
            .op true none (.bin .lss (.r 0) (.c (.int .i64 2))),
            .op true (some ((.r 0), false)) (.mv (.r 15)),
            .op true (some ((.r 1), false)) (.ixs (.r 0) (.c (.int .i64 1))),
            .op true (some ((.r 2), false)) (.fad 0 (.r 5)),
            .op true (some ((.r 3), false)) (.ld (.r 0)),
            .op true (some ((.r 4), false)) (.bin .lss (.r 2) (.r 0)),
            .op true none (.pick (.r 5) (.c (.bool true)) (.r 0)),
            .op true (some ((.r 0), false)) (.fad 1 (.r 9)),
            .op true (some ((.r 1), false)) (.ld (.r 0)),
            .op true (some ((.r 2), false)) (.mv (.r 23)),
            .op true (some ((.r 3), false)) (.ixs (.r 0) (.c (.int .i64 1))),
            .op true (some ((.r 4), false)) (.bin .lss (.r 2) (.r 0)),
            .op true none (.pick (.r 5) (.c (.bool true)) (.r 0))])
         (.cond (.r 0)
          (.seq (.ops [])
          (.ret [.v (.c (.bool false))]))
          (.ops [])))
        (.ops [.op true none (.sls (.r 27) (some (.c (.int .i64 2))) none)]))
       (.ops [.shuf [(.r 0)]]))
       (.seq (.seq (.ops [.op true none (.bin .eql (.r 5) (.c (.int .i64 3)))])
        (.cond (.r 0)
         (.seq (.seq (.seq (.ops [.op true none (.lenS (.r 14)),
              .op true none (.bin .lss (.r 0) (.c (.int .i64 3))),
              .op true (some ((.r 0), false)) (.mv (.r 16)),
              .op true (some ((.r 1), false)) (.ixs (.r 0) (.c (.int .i64 1))),
              .op true (some ((.r 2), false)) (.fad 0 (.r 6)),
              .op true (some ((.r 3), false)) (.ld (.r 0)),
              .op true (some ((.r 4), false)) (.bin .lss (.r 2) (.r 0)),
              .op true none (.pick (.r 5) (.c (.bool true)) (.r 0)),
              .op true (some ((.r 0), false)) (.fad 1 (.r 10)),
              .op true (some ((.r 1), false)) (.ld (.r 0)),
              .op true (some ((.r 2), false)) (.mv (.r 24)),
              .op true (some ((.r 3), false)) (.ixs (.r 0) (.c (.int .i64 1))),
              .op true (some ((.r 4), false)) (.bin .lss (.r 2) (.r 0)),
              .op true none (.pick (.r 5) (.c (.bool true)) (.r 0)),
              .op true (some ((.r 0), false)) (.mv (.r 28)),
              .op true (some ((.r 1), false)) (.ixs (.r 0) (.c (.int .i64 2))),
              .op true (some ((.r 2), false)) (.bin .lss (.r 0) (.c (.int .u8 128))),
              .op true none (.pick (.r 3) (.c (.bool true)) (.r 0)),
              .op true (some ((.r 0), false)) (.mv (.r 32)),
              .op true (some ((.r 1), false)) (.ixs (.r 0) (.c (.int .i64 2))),
              .op true (some ((.r 2), false)) (.bin .lss (.c (.int .u8 191)) (.r 0)),
              .op true none (.pick (.r 3) (.c (.bool true)) (.r 0))])
           (.cond (.r 0)
            (.seq (.ops [])
            (.ret [.v (.c (.bool false))]))
            (.ops [])))
          (.ops [.op true none (.sls (.r 36) (some (.c (.int .i64 3))) none)]))
         (.ops [.shuf [(.r 0)]]))
         (.seq (.seq (.ops [.op true none (.bin .eql (.r 6) (.c (.int .i64 4)))])
          (.cond (.r 0)
           (.seq (.seq (.ops [.op true none (.lenS (.r 15)),
               .op true none (.bin .lss (.r 0) (.c (.int .i64 4))),
               .op true (some ((.r 0), false)) (.mv (.r 17)),
               .op true (some ((.r 1), false)) (.ixs (.r 0) (.c (.int .i64 1))),
               .op true (some ((.r 2), false)) (.fad 0 (.r 7)),
               .op true (some ((.r 3), false)) (.ld (.r 0)),
               .op true (some ((.r 4), false)) (.bin .lss (.r 2) (.r 0)),
               .op true none (.pick (.r 5) (.c (.bool true)) (.r 0)),
               .op true (some ((.r 0), false)) (.fad 1 (.r 11)),
               .op true (some ((.r 1), false)) (.ld (.r 0)),
               .op true (some ((.r 2), false)) (.mv (.r 25)),
               .op true (some ((.r 3), false)) (.ixs (.r 0) (.c (.int .i64 1))),
               .op true (some ((.r 4), false)) (.bin .lss (.r 2) (.r 0)),
               .op true none (.pick (.r 5) (.c (.bool true)) (.r 0)),
               .op true (some ((.r 0), false)) (.mv (.r 29)),
               .op true (some ((.r 1), false)) (.ixs (.r 0) (.c (.int .i64 2))),
               .op true (some ((.r 2), false)) (.bin .lss (.r 0) (.c (.int .u8 128))),
               .op true none (.pick (.r 3) (.c (.bool true)) (.r 0)),
               .op true (some ((.r 0), false)) (.mv (.r 33)),
               .op true (some ((.r 1), false)) (.ixs (.r 0) (.c (.int .i64 2))),
               .op true (some ((.r 2), false)) (.bin .lss (.c (.int .u8 191)) (.r 0)),
               .op true none (.pick (.r 3) (.c (.bool true)) (.r 0)),
               .op true (some ((.r 0), false)) (.mv (.r 37)),
               .op true (some ((.r 1), false)) (.ixs (.r 0) (.c (.int .i64 3))),
               .op true (some ((.r 2), false)) (.bin .lss (.r 0) (.c (.int .u8 128))),
               .op true none (.pick (.r 3) (.c (.bool true)) (.r 0)),
               .op true (some ((.r 0), false)) (.mv (.r 41)),
               .op true (some ((.r 1), false)) (.ixs (.r 0) (.c (.int .i64 3))),
               .op true (some ((.r 2), false)) (.bin .lss (.c (.int .u8 191)) (.r 0)),
               .op true none (.pick (.r 3) (.c (.bool true)) (.r 0))])
            (.cond (.r 0)
             (.seq (.ops [])
             (.ret [.v (.c (.bool false))]))
             (.ops [])))
           (.ops [.op true none (.sls (.r 45) (some (.c (.int .i64 4))) none)]))
           (.seq (.ops [])
           (.ret [.v (.c (.bool false))]))))
         (.ops [.shuf [(.r 0)]]))))
       (.ops [.shuf [(.r 0)]]))))
     (.ops [.shuf [(.r 0)]])))))))))
   (.ops [.shuf [(.r 0)]]))))
 (.ops [.shuf [(.r 0)]]))
def c22 : FC :=
 (.seq (.ops [])
 (.seq (.block 0 (.seq (.ops [.shuf [(.r 0)]])
   (.loop c22_2)))
 (.seq (.ops [])
 (.ret [.v (.c (.bool true))]))))
def c23 : FC :=
 (.seq (.ops [])
 (.seq (.ops [.op true none (.call 50 [(.r 0), (.r 1)]),
    .op true none (.bin .geq (.r 0) (.c (.int .i64 0)))])
 (.ret [.v (.r 0)])))
def c24 : FC :=
 (.seq (.ops [])
 (.seq (.ops [.op true none (.call 51 [(.r 0), (.r 1)]),
    .op true none (.bin .geq (.r 0) (.c (.int .i64 0)))])
 (.ret [.v (.r 0)])))
def c31 : FC :=
 (.seq (.ops [])
 (.seq (.ops [.op true none (.call 54 [(.r 0), (.r 1)]),
    .op true none (.bin .geq (.r 0) (.c (.int .i64 0)))])
 (.ret [.v (.r 0)])))
def c35_1 : FC :=
 (.seq (.seq (.ops [.op true none (.bin .lss (.r 3) (.r 2))])
  (.seq (.cond (.r 0)
    (.ops [])
    (.exit 0 [(.r 1)]))
  (.seq (.block 1 (.seq (.seq (.ops [.op true none (.iad 2 (.r 2) (.r 4)),
        .op true none (.lda 2 (.r 0)),
        .op true none (.new 26 [(.string (bs [])), (.string (bs []))]),
        .op false none (.st 2 (.r 0) (.r 1))])
     (.seq (.seq (.ops [.op true none (.fad 0 (.r 0)),
         .op true none (.ld (.r 0)),
         .op true none (.lenS (.r 0)),
         .op true none (.bin .neq (.r 0) (.c (.int .i64 4))),
         .op true (some ((.r 0), false)) (.fad 0 (.r 4)),
         .op true (some ((.r 1), false)) (.ld (.r 0)),
         .op true (some ((.r 2), false)) (.call 60 [(.r 0)]),
         .op true (some ((.r 3), false)) (.nt (.r 0)),
         .op true none (.pick (.r 4) (.c (.bool true)) (.r 0)),
         .op true (some ((.r 0), false)) (.fad 1 (.r 9)),
         .op true (some ((.r 1), false)) (.ld (.r 0)),
         .op true (some ((.r 2), false)) (.call 23 [(.r 0), (.c (.string (bs [0])))]),
         .op true none (.pick (.r 3) (.c (.bool true)) (.r 0))])
      (.cond (.r 0)
       (.seq (.ops [])
       (.ret [.v (.c (.string (bs []))), .v (.c (.int .i64 210))]))
       (.ops [])))
     (.ops [.op true none (.fad 0 (.r 13)),
       .op true none (.ld (.r 0)),
       .op true none (.fad 1 (.r 15)),
       .op true none (.ld (.r 0)),
       .op true none (.lenS (.r 0)),
       .op true none (.bin .add (.r 0) (.c (.int .i64 1))),
       .op true none (.fad 1 (.r 19)),
       .op true none (.ld (.r 0)),
       .op true none (.fad 1 (.r 21)),
       .op true none (.ld (.r 0)),
       .op true none (.lenS (.r 0)),
       .op true none (.bin .rem (.r 0) (.c (.int .i64 2))),
       .op true none (.bin .sub (.c (.int .i64 2)) (.r 0)),
       .op true none (.sls (.c (.string (bs [0, 0]))) none (some (.r 0))),
       .op true none (.call 61 [(.r 8)]),
       .chk none (.sls (.c (.string (bs [0, 0]))) none (some (.r 2))) (.r 1),
       .chk none (.bin .sub (.c (.int .i64 2)) (.r 3)) (.r 2),
       .chk none (.bin .rem (.r 4) (.c (.int .i64 2))) (.r 3),
       .chk none (.lenS (.r 5)) (.r 4),
       .chk none (.ld (.r 6)) (.r 5),
       .chk none (.fad 1 (.r 28)) (.r 6),
       .chk none (.ld (.r 8)) (.r 7),
       .chk none (.fad 1 (.r 28)) (.r 8),
       .chk none (.ld (.r 14)) (.r 13),
       .chk none (.fad 0 (.r 28)) (.r 14),
       .op true none (.bin .add (.r 13) (.r 0)),
       .op true none (.bin .add (.r 0) (.r 8)),
       .op true none (.bin .add (.r 0) (.r 3)),
       .op true none (.call 59 [(.r 35), (.r 0)])])))
    (.ops [.shuf [(.r 36), (.r 37), (.r 38), (.r 39)]])))
  (.ops [.op true none (.bin .add (.r 3) (.c (.int .i64 1)))]))))
 (.ops [.shuf [(.r 1), (.r 2), (.r 3), (.r 0)]]))
def c35 : FC :=
 (.seq (.ops [])
 (.seq (.seq (.ops [.op true none (.lenL (.r 0)),
     .op true none (.bin .gtr (.r 0) (.c (.int .i64 1024)))])
  (.cond (.r 0)
   (.seq (.ops [])
   (.ret [.v (.c (.string (bs []))), .v (.c (.int .i64 210))]))
   (.ops [])))
 (.seq (.ops [.op true none (.new 114 [(.pointer none), (.slice none 0 0)])])
 (.seq (.ops [.op true none (.call 59 [(.r 0), (.c (.string (bs [73, 78, 70, 79])))])])
 (.seq (.seq (.ops [.op true none (.lenL (.r 4))])
  (.block 0 (.seq (.ops [.shuf [(.r 2), (.r 5), (.r 0), (.c (.int .i64 0))]])
   (.loop c35_1))))
 (.seq (.ops [.op true none (.call 62 [(.r 0)])])
 (.ret [.v (.r 0), .v (.c (.int .i64 0))])))))))
def c36 : FC :=
 (.seq (.ops [])
 (.seq (.ops [.op true none (.raw false (.buildSlice 155 2 #[(0, (.tmp 5)), (1, (.tmp 6))]) 155 [(5, (.r 0)), (6, (.r 1))]),
    .op true none (.call 63 [(.r 0)])])
 (.ret [.v (.r 0)])))
def c37_1 : FC :=
 (.seq (.seq (.ops [.op true none (.bin .lss (.r 4) (.r 3))])
  (.seq (.cond (.r 0)
    (.ops [])
    (.exit 0 [(.r 2)]))
  (.seq (.block 1 (.seq (.seq (.ops [.op true none (.iad 2 (.r 3) (.r 5)),
        .op true none (.lda 2 (.r 0)),
        .op true none (.new 26 [(.string (bs [])), (.string (bs []))]),
        .op false none (.st 2 (.r 0) (.r 1))])
     (.seq (.ops [.op true none (.fad 0 (.r 0)),
        .op true none (.ld (.r 0)),
        .op true none (.bin .eql (.r 0) (.r 6))])
     (.cond (.r 0)
      (.seq (.ops [.op true none (.fad 1 (.r 3)),
         .op true none (.ld (.r 0)),
         .op true none (.raw false (.buildSlice 51 1 #[(0, (.tmp 20))]) 51 [(20, (.r 0))]),
         .op true none (.raw false (.call ⟨.builtin .append, #[(.tmp 18), (.tmp 21)], #[51, 51]⟩) 51 [(18, (.r 11)), (21, (.r 0))])])
      (.ops [.shuf [(.r 11), (.r 0), (.r 13), (.r 14), (.r 15)]]))
      (.seq (.ops [])
      (.ops [.shuf [(.r 7), (.r 8), (.r 9), (.r 10), (.r 11)]])))))
    (.ops [.shuf [(.r 0), (.r 1), (.r 2), (.r 3), (.r 4)]])))
  (.ops [.op true none (.bin .add (.r 4) (.c (.int .i64 1)))]))))
 (.ops [.shuf [(.r 1), (.r 2), (.r 3), (.r 4), (.r 0)]]))
def c37 : FC :=
 (.seq (.ops [])
 (.seq (.ops [])
 (.seq (.seq (.ops [.op true none (.lenL (.r 0))])
  (.block 0 (.seq (.ops [.shuf [(.r 2), (.c (.slice none 0 0)), (.r 1), (.r 0), (.c (.int .i64 0))]])
   (.loop c37_1))))
 (.seq (.ops [])
 (.ret [.v (.r 0)])))))
def c40 : FC :=
 (.seq (.ops [])
 (.seq (.ops [.op true none (.call 65 [(.r 0), (.c (.string (bs [0])))])])
 (.ret [.v (.r 0)])))
def c41 : FC :=
 (.seq (.ops [])
 (.seq (.ops [.op true none (.raw false (.buildSlice 161 2 #[(0, (.tmp 5)), (1, (.tmp 6))]) 161 [(5, (.r 0)), (6, (.r 1))]),
    .op true none (.call 71 [(.r 0)])])
 (.ret [.v (.r 0)])))
def c42_1 : FC :=
 (.seq (.seq (.ops [.op true none (.bin .lss (.r 5) (.r 4))])
  (.seq (.cond (.r 0)
    (.ops [])
    (.exit 0 [(.r 1), (.r 2)]))
  (.seq (.block 1 (.seq (.seq (.ops [.op true none (.iad 3 (.r 4) (.r 6)),
        .op true none (.lda 3 (.r 0)),
        .op true none (.new 50 [(.string (bs [])), (.int .i64 0), (.string (bs []))]),
        .op false none (.st 3 (.r 0) (.r 1))])
     (.seq (.seq (.ops [.op true none (.fad 0 (.r 0)),
         .op true none (.ld (.r 0)),
         .op true none (.call 72 [(.r 8), (.r 0)]),
         .op true none (.nt (.r 0)),
         .op true (some ((.r 0), false)) (.fad 1 (.r 4)),
         .op true (some ((.r 1), false)) (.ld (.r 0)),
         .op true (some ((.r 2), false)) (.bin .lss (.r 0) (.c (.int .i64 0))),
         .op true none (.pick (.r 3) (.c (.bool true)) (.r 0)),
         .op true (some ((.r 0), false)) (.fad 1 (.r 8)),
         .op true (some ((.r 1), false)) (.ld (.r 0)),
         .op true (some ((.r 2), false)) (.bin .geq (.r 0) (.c (.int .i64 4294967296))),
         .op true none (.pick (.r 3) (.c (.bool true)) (.r 0)),
         .op true (some ((.r 0), false)) (.fad 2 (.r 12)),
         .op true (some ((.r 1), false)) (.ld (.r 0)),
         .op true (some ((.r 2), false)) (.lenS (.r 0)),
         .op true (some ((.r 3), false)) (.bin .geq (.r 0) (.c (.int .i64 16777216))),
         .op true none (.pick (.r 4) (.c (.bool true)) (.r 0))])
      (.cond (.r 0)
       (.seq (.ops [])
       (.ret [.v (.c (.string (bs []))), .v (.c (.int .i64 210))]))
       (.ops [])))
     (.ops [.op true none (.fad 2 (.r 17)),
       .op true none (.ld (.r 0)),
       .op true none (.lenS (.r 0)),
       .op true none (.fad 1 (.r 20)),
       .op true none (.ld (.r 0)),
       .op true none (.fad 0 (.r 22)),
       .op true none (.ld (.r 0)),
       .op true none (.fad 2 (.r 24)),
       .op true none (.ld (.r 0)),
       .op true none (.call 61 [(.r 6)]),
       .chk none (.ld (.r 2)) (.r 1),
       .chk none (.fad 2 (.r 27)) (.r 2),
       .chk none (.ld (.r 4)) (.r 3),
       .chk none (.fad 0 (.r 27)) (.r 4),
       .chk none (.ld (.r 6)) (.r 5),
       .chk none (.fad 1 (.r 27)) (.r 6),
       .op true none (.call 61 [(.r 5)]),
       .chk none (.ld (.r 3)) (.r 2),
       .chk none (.fad 2 (.r 28)) (.r 3),
       .chk none (.ld (.r 5)) (.r 4),
       .chk none (.fad 0 (.r 28)) (.r 5),
       .op true none (.bin .add (.r 1) (.r 0)),
       .op true none (.bin .add (.r 0) (.r 5)),
       .op true none (.bin .add (.r 0) (.c (.string (bs [0])))),
       .op true none (.bin .add (.r 0) (.r 5)),
       .op true none (.call 59 [(.r 37), (.r 0)])])))
    (.ops [.shuf [(.r 37), (.r 38), (.r 39), (.r 40), (.r 41), (.r 42)]])))
  (.ops [.op true none (.bin .add (.r 5) (.c (.int .i64 1)))]))))
 (.ops [.shuf [(.r 1), (.r 2), (.r 3), (.r 4), (.r 5), (.r 0)]]))
def c42 : FC :=
 (.seq (.ops [])
 (.seq (.seq (.ops [.op true none (.lenL (.r 0)),
     .op true none (.bin .gtr (.r 0) (.c (.int .i64 1024)))])
  (.cond (.r 0)
   (.seq (.ops [])
   (.ret [.v (.c (.string (bs []))), .v (.c (.int .i64 210))]))
   (.ops [])))
 (.seq (.ops [.op true none (.new 114 [(.pointer none), (.slice none 0 0)])])
 (.seq (.ops [.op true none (.raw false (.makeMap 128 none) 128 [])])
 (.seq (.seq (.ops [.op true none (.lenL (.r 4))])
  (.block 0 (.seq (.ops [.shuf [(.r 5), (.r 2), (.r 1), (.r 5), (.r 0), (.c (.int .i64 0))]])
   (.loop c42_1))))
 (.seq (.ops [.op true none (.call 73 [(.r 1)]),
    .op true none (.bin .add (.r 0) (.c (.int .i64 32)))])
 (.seq (.ops [.op true none (.lenL (.r 2)),
    .op true none (.call 74 [(.r 1), (.r 0), (.c (.bool true))]),
    .op true none (.call 62 [(.r 5)]),
    .op true none (.bin .add (.r 1) (.r 0)),
    .op true none (.lenL (.r 6)),
    .op true none (.call 74 [(.r 5), (.r 0), (.c (.bool false))]),
    .op true none (.bin .add (.r 2) (.r 0))])
 (.ret [.v (.r 0), .v (.c (.int .i64 0))]))))))))
def c45_1 : FC :=
 (.seq (.seq (.ops [.op true none (.bin .lss (.r 4) (.r 3))])
  (.seq (.cond (.r 0)
    (.ops [])
    (.exit 2 [(.r 2)]))
  (.seq (.block 3 (.seq (.seq (.ops [.op true none (.iad 2 (.r 3) (.r 5)),
        .op true none (.lda 2 (.r 0)),
        .op true none (.new 26 [(.string (bs [])), (.string (bs []))]),
        .op false none (.st 2 (.r 0) (.r 1))])
     (.seq (.ops [.op true none (.fad 0 (.r 0)),
        .op true none (.ld (.r 0)),
        .op true none (.bin .eql (.r 0) (.r 6))])
     (.cond (.r 0)
      (.seq (.ops [.op true none (.fad 1 (.r 3)),
         .op true none (.ld (.r 0)),
         .op true none (.raw false (.buildSlice 51 1 #[(0, (.tmp 41))]) 51 [(41, (.r 0))]),
         .op true none (.raw false (.call ⟨.builtin .append, #[(.tmp 39), (.tmp 42)], #[51, 51]⟩) 51 [(39, (.r 11)), (42, (.r 0))])])
      (.ops [.shuf [(.r 11), (.r 0), (.r 13), (.r 14), (.r 15)]]))
      (.seq (.ops [])
      (.ops [.shuf [(.r 7), (.r 8), (.r 9), (.r 10), (.r 11)]])))))
    (.ops [.shuf [(.r 0), (.r 1), (.r 2), (.r 3), (.r 4)]])))
  (.ops [.op true none (.bin .add (.r 4) (.c (.int .i64 1)))]))))
 (.ops [.shuf [(.r 1), (.r 2), (.r 3), (.r 4), (.r 0)]]))
def c45_2 : FC :=
 (.seq (.seq (.ops [.op true none (.bin .lss (.r 3) (.r 2))])
  (.seq (.cond (.r 0)
    (.ops [])
    (.exit 0 []))
  (.seq (.block 1 (.seq (.ops [.op true none (.iad 3 (.r 2) (.r 4)),
       .op true none (.lda 3 (.r 0)),
       .op true none (.new 47 [(.string (bs [])), (.string (bs [])), (.int .i64 0)]),
       .op false none (.st 3 (.r 0) (.r 1))])
    (.seq (.seq (.ops [.op true none (.fad 0 (.r 0)),
        .op true none (.ld (.r 0)),
        .op true none (.bin .neq (.r 0) (.c (.string (bs [76, 73, 83, 84]))))])
     (.cond (.r 0)
      (.exit 1 [(.r 7), (.r 8), (.r 9), (.r 10)])
      (.ops [])))
    (.seq (.ops [.op true none (.fad 1 (.r 3)),
       .op true none (.ld (.r 0)),
       .op true none (.call 80 [(.r 0)]),
       .op true none (.ext (.r 0) 0),
       .op true none (.ext (.r 1) 1)])
    (.seq (.seq (.ops [.op true none (.bin .neq (.r 0) (.c (.int .i64 0)))])
     (.cond (.r 0)
      (.exit 1 [(.r 13), (.r 14), (.r 15), (.r 16)])
      (.ops [])))
    (.seq (.ops [])
    (.seq (.seq (.ops [.op true none (.lenL (.r 2))])
     (.block 2 (.seq (.ops [.shuf [(.r 14), (.c (.slice none 0 0)), (.r 3), (.r 0), (.c (.int .i64 0))]])
      (.loop c45_1))))
    (.seq (.ops [])
    (.ret [.v (.r 0)])))))))))
  (.ops [.op true none (.bin .add (.r 3) (.c (.int .i64 1)))]))))
 (.ops [.shuf [(.r 1), (.r 2), (.r 3), (.r 0)]]))
def c45 : FC :=
 (.seq (.ops [])
 (.seq (.seq (.ops [.op true none (.lenL (.r 0))])
  (.block 0 (.seq (.ops [.shuf [(.r 2), (.r 1), (.r 0), (.c (.int .i64 0))]])
   (.loop c45_2))))
 (.seq (.ops [])
 (.ret [.v (.c (.slice none 0 0))]))))
def c50 : FC :=
 (.seq (.ops [])
 (.seq (.ops [.op true none (.call 86 [(.r 0), (.r 1)])])
 (.ret [.v (.r 0)])))
def c51_1 : FC :=
 (.seq (.seq (.ops [.op true none (.bin .lss (.r 3) (.r 2))])
  (.seq (.cond (.r 0)
    (.ops [])
    (.exit 0 []))
  (.seq (.block 1 (.seq (.seq (.ops [])
     (.seq (.ops [.op true none (.iad 3 (.r 1) (.r 4)),
        .op true none (.lda 3 (.r 0)),
        .op true none (.raw false (.call ⟨.value (.tmp 11), #[(.tmp 15)], #[47]⟩) 4 [(11, (.r 4)), (15, (.r 0))])])
     (.cond (.r 0)
      (.seq (.ops [])
      (.ret [.v (.r 7)]))
      (.ops []))))
    (.ops [.shuf [(.r 4), (.r 5), (.r 6), (.r 7)]])))
  (.ops [.op true none (.bin .add (.r 3) (.c (.int .i64 1)))]))))
 (.ops [.shuf [(.r 1), (.r 2), (.r 3), (.r 0)]]))
def c51 : FC :=
 (.seq (.ops [])
 (.seq (.seq (.ops [.op true none (.lenL (.r 0))])
  (.block 0 (.seq (.ops [.shuf [(.r 1), (.r 2), (.r 0), (.c (.int .i64 0))]])
   (.loop c51_1))))
 (.seq (.ops [])
 (.ret [.v (.c (.int .i64 (-1)))]))))
def c52 : FC :=
 (.seq (.ops [])
 (.seq (.ops [.op true none (.lenS (.r 0)),
    .op true none (.lenS (.r 2)),
    .op true none (.bin .geq (.r 1) (.r 0)),
    .op true (some ((.r 0), true)) (.mv (.r 3)),
    .op true (some ((.r 1), true)) (.mv (.r 5)),
    .op true (some ((.r 2), true)) (.lenS (.r 0)),
    .op true (some ((.r 3), true)) (.sls (.r 2) none (some (.r 0))),
    .op true (some ((.r 4), true)) (.mv (.r 8)),
    .op true (some ((.r 5), true)) (.bin .eql (.r 1) (.r 0)),
    .op true none (.pick (.r 6) (.r 0) (.c (.bool false)))])
 (.ret [.v (.r 0)])))
def c54_1 : FC :=
 (.seq (.seq (.ops [.op true none (.bin .lss (.r 3) (.r 2))])
  (.seq (.cond (.r 0)
    (.ops [])
    (.exit 0 []))
  (.seq (.block 1 (.seq (.seq (.ops [])
     (.seq (.ops [.op true none (.iad 3 (.r 1) (.r 4)),
        .op true none (.lda 3 (.r 0)),
        .op true none (.raw false (.call ⟨.value (.tmp 11), #[(.tmp 15)], #[50]⟩) 4 [(11, (.r 4)), (15, (.r 0))])])
     (.cond (.r 0)
      (.seq (.ops [])
      (.ret [.v (.r 7)]))
      (.ops []))))
    (.ops [.shuf [(.r 4), (.r 5), (.r 6), (.r 7)]])))
  (.ops [.op true none (.bin .add (.r 3) (.c (.int .i64 1)))]))))
 (.ops [.shuf [(.r 1), (.r 2), (.r 3), (.r 0)]]))
def c54 : FC :=
 (.seq (.ops [])
 (.seq (.seq (.ops [.op true none (.lenL (.r 0))])
  (.block 0 (.seq (.ops [.shuf [(.r 1), (.r 2), (.r 0), (.c (.int .i64 0))]])
   (.loop c54_1))))
 (.seq (.ops [])
 (.ret [.v (.c (.int .i64 (-1)))]))))
def c59 : FC :=
 (.seq (.ops [])
 (.seq (.ops [.op true none (.call 91 [(.r 0)])])
 (.seq (.ops [.op true none (.nilc (.r 1)),
    .op true none (.fad 1 (.r 0)),
    .op true none (.ld (.r 0)),
    .op true none (.raw false (.call ⟨.builtin .append, #[(.tmp 12), (.tmp 13)], #[112, 9]⟩) 112 [(12, (.r 0)), (13, (.r 5))]),
    .op true none (.nilc (.r 5)),
    .op true none (.fad 1 (.r 0)),
    .op false none (.st 1 (.r 0) (.r 2))])
 (.seq (.ops [.op true none (.lenS (.r 8))])
 (.ret [.v (.r 0), .v (.c .nilIface)])))))
def c60_1 : FC :=
 (.seq (.seq (.ops [.op true none (.bin .lss (.r 2) (.r 1))])
  (.seq (.cond (.r 0)
    (.ops [])
    (.exit 0 []))
  (.seq (.block 1 (.seq (.seq (.ops [])
     (.seq (.ops [.op true none (.ixs (.r 1) (.r 3)),
        .op true none (.bin .lss (.r 0) (.c (.int .u8 32))),
        .op true (some ((.r 0), false)) (.mv (.r 3)),
        .op true (some ((.r 1), false)) (.mv (.r 6)),
        .op true (some ((.r 2), false)) (.ixs (.r 1) (.r 0)),
        .op true (some ((.r 3), false)) (.bin .gtr (.r 0) (.c (.int .u8 126))),
        .op true none (.pick (.r 4) (.c (.bool true)) (.r 0))])
     (.cond (.r 0)
      (.seq (.ops [])
      (.ret [.v (.c (.bool false))]))
      (.ops []))))
    (.ops [.shuf [(.r 8), (.r 9), (.r 10)]])))
  (.ops [.op true none (.bin .add (.r 2) (.c (.int .i64 1)))]))))
 (.ops [.shuf [(.r 1), (.r 2), (.r 0)]]))
def c60 : FC :=
 (.seq (.ops [])
 (.seq (.seq (.ops [.op true none (.lenS (.r 0))])
  (.block 0 (.seq (.ops [.shuf [(.r 1), (.r 0), (.c (.int .i64 0))]])
   (.loop c60_1))))
 (.seq (.ops [])
 (.ret [.v (.c (.bool true))]))))
def c61 : FC :=
 (.seq (.ops [])
 (.seq (.ops [.op true none (.call 77 [(.r 0), (.c (.int .i64 4))]),
    .op true none (.ext (.r 0) 0),
    .op true none (.ext (.r 1) 1)])
 (.seq (.ops [])
 (.ret [.v (.r 1)]))))
def c62 : FC :=
 (.seq (.ops [])
 (.seq (.ops [.op true none (.nilc (.r 0)),
    .op true none (.fad 1 (.r 0)),
    .op true none (.ld (.r 0)),
    .op true none (.nilc (.r 3)),
    .op true none (.fad 1 (.r 0)),
    .op true none (.ld (.r 0)),
    .op true none (.lenL (.r 0)),
    .op true none (.raw false (.call ⟨.builtin .unsafeSliceData, #[(.tmp 6)], #[112]⟩) 154 [(6, (.r 4))]),
    .chk none (.lenL (.r 2)) (.r 1),
    .chk none (.ld (.r 3)) (.r 2),
    .chk none (.fad 1 (.r 4)) (.r 3),
    .chk none (.nilc (.r 8)) (.r 4),
    .chk none (.mv (.r 8)) (.r 8),
    .op true none (.raw false (.call ⟨.builtin .unsafeString, #[(.tmp 7), (.tmp 12)], #[154, 3]⟩) 9 [(7, (.r 0)), (12, (.r 1))])])
 (.ret [.v (.r 0)])))
def c63_1 : FC :=
 (.seq (.seq (.ops [.op true none (.bin .lss (.r 4) (.r 3))])
  (.seq (.cond (.r 0)
    (.ops [])
    (.exit 0 [(.r 1), (.r 2)]))
  (.seq (.block 1 (.seq (.seq (.ops [.op true none (.iad 1 (.r 3) (.r 5)),
        .op true none (.ld (.r 0))])
     (.seq (.ops [.op true none (.lenL (.r 0)),
        .op true none (.bin .add (.r 5) (.r 0))])
     (.seq (.ops [.op true none (.bin .lss (.r 0) (.c (.int .i64 0)))])
     (.cond (.r 0)
      (.seq (.ops [.op true none (.mki 9 (.c (.string (bs [108, 101, 110, 32, 111, 117, 116, 32, 111, 102, 32, 114, 97, 110, 103, 101])))),
         .op false none (.raw false (.panic (.tmp 21)) 0 [(21, (.r 0))])])
      (.ops [.shuf [(.r 7), (.r 2), (.r 9), (.r 10), (.r 11)]]))
      (.seq (.ops [])
      (.ops [.shuf [(.r 6), (.r 1), (.r 8), (.r 9), (.r 10)]]))))))
    (.ops [.shuf [(.r 0), (.r 1), (.r 2), (.r 3), (.r 4)]])))
  (.ops [.op true none (.bin .add (.r 4) (.c (.int .i64 1)))]))))
 (.ops [.shuf [(.r 1), (.r 2), (.r 3), (.r 4), (.r 0)]]))
def c63_2 : FC :=
 (.seq (.seq (.ops [.op true none (.bin .lss (.r 3) (.r 2))])
  (.seq (.cond (.r 0)
    (.ops [])
    (.exit 2 [(.r 1)]))
  (.seq (.block 3 (.seq (.seq (.ops [.op true none (.iad 1 (.r 2) (.r 4)),
        .op true none (.ld (.r 0))])
     (.ops [.op true none (.raw false (.call ⟨.builtin .append, #[(.tmp 31), (.tmp 32)], #[27, 27]⟩) 27 [(31, (.r 3)), (32, (.r 0))])]))
    (.ops [.shuf [(.r 0), (.r 5), (.r 6), (.r 7)]])))
  (.ops [.op true none (.bin .add (.r 3) (.c (.int .i64 1)))]))))
 (.ops [.shuf [(.r 1), (.r 2), (.r 3), (.r 0)]]))
def c63 : FC :=
 (.seq (.ops [])
 (.seq (.ops [])
 (.seq (.seq (.ops [.op true none (.lenL (.r 0))])
  (.block 0 (.seq (.ops [.shuf [(.r 1), (.c (.int .i64 0)), (.r 1), (.r 0), (.c (.int .i64 0))]])
   (.loop c63_1))))
 (.seq (.ops [.op true none (.call 92 [(.c (.slice none 0 0)), (.r 1)])])
 (.seq (.seq (.ops [.op true none (.lenL (.r 1))])
  (.block 2 (.seq (.ops [.shuf [(.r 1), (.r 2), (.r 0), (.c (.int .i64 0))]])
   (.loop c63_2))))
 (.seq (.ops [])
 (.ret [.v (.r 0)])))))))
def c71_1 : FC :=
 (.seq (.seq (.ops [.op true none (.bin .lss (.r 4) (.r 3))])
  (.seq (.cond (.r 0)
    (.ops [])
    (.exit 0 [(.r 1), (.r 2)]))
  (.seq (.block 1 (.seq (.seq (.ops [.op true none (.iad 1 (.r 3) (.r 5)),
        .op true none (.ld (.r 0))])
     (.seq (.ops [.op true none (.lenL (.r 0)),
        .op true none (.bin .add (.r 5) (.r 0))])
     (.seq (.ops [.op true none (.bin .lss (.r 0) (.c (.int .i64 0)))])
     (.cond (.r 0)
      (.seq (.ops [.op true none (.mki 9 (.c (.string (bs [108, 101, 110, 32, 111, 117, 116, 32, 111, 102, 32, 114, 97, 110, 103, 101])))),
         .op false none (.raw false (.panic (.tmp 21)) 0 [(21, (.r 0))])])
      (.ops [.shuf [(.r 7), (.r 2), (.r 9), (.r 10), (.r 11)]]))
      (.seq (.ops [])
      (.ops [.shuf [(.r 6), (.r 1), (.r 8), (.r 9), (.r 10)]]))))))
    (.ops [.shuf [(.r 0), (.r 1), (.r 2), (.r 3), (.r 4)]])))
  (.ops [.op true none (.bin .add (.r 4) (.c (.int .i64 1)))]))))
 (.ops [.shuf [(.r 1), (.r 2), (.r 3), (.r 4), (.r 0)]]))
def c71_2 : FC :=
 (.seq (.seq (.ops [.op true none (.bin .lss (.r 3) (.r 2))])
  (.seq (.cond (.r 0)
    (.ops [])
    (.exit 2 [(.r 1)]))
  (.seq (.block 3 (.seq (.seq (.ops [.op true none (.iad 1 (.r 2) (.r 4)),
        .op true none (.ld (.r 0))])
     (.ops [.op true none (.raw false (.call ⟨.builtin .append, #[(.tmp 31), (.tmp 32)], #[38, 38]⟩) 38 [(31, (.r 3)), (32, (.r 0))])]))
    (.ops [.shuf [(.r 0), (.r 5), (.r 6), (.r 7)]])))
  (.ops [.op true none (.bin .add (.r 3) (.c (.int .i64 1)))]))))
 (.ops [.shuf [(.r 1), (.r 2), (.r 3), (.r 0)]]))
def c71 : FC :=
 (.seq (.ops [])
 (.seq (.ops [])
 (.seq (.seq (.ops [.op true none (.lenL (.r 0))])
  (.block 0 (.seq (.ops [.shuf [(.r 1), (.c (.int .i64 0)), (.r 1), (.r 0), (.c (.int .i64 0))]])
   (.loop c71_1))))
 (.seq (.ops [.op true none (.call 97 [(.c (.slice none 0 0)), (.r 1)])])
 (.seq (.seq (.ops [.op true none (.lenL (.r 1))])
  (.block 2 (.seq (.ops [.shuf [(.r 1), (.r 2), (.r 0), (.c (.int .i64 0))]])
   (.loop c71_2))))
 (.seq (.ops [])
 (.ret [.v (.r 0)])))))))
def c72 : FC :=
 (.seq (.ops [])
 (.seq (.ops [.op true none (.call 98 [(.r 1)])])
 (.seq (.ops [.op true none (.raw false (.lookup 128 (.tmp 8) (.tmp 9) false) 3 [(8, (.r 1)), (9, (.r 0))]),
    .op true none (.bin .add (.r 0) (.c (.int .i64 1))),
    .op false none (.raw false (.mapUpdate 128 (.tmp 8) (.tmp 9) (.tmp 11)) 0 [(8, (.r 3)), (9, (.r 2)), (11, (.r 0))])])
 (.seq (.ops [.op true none (.lenS (.r 4)),
    .op true none (.bin .geq (.r 0) (.c (.int .i64 2))),
    .op true (some ((.r 0), true)) (.mv (.r 6)),
    .op true (some ((.r 1), true)) (.lenS (.r 0)),
    .op true (some ((.r 2), true)) (.bin .leq (.r 0) (.c (.int .i64 255))),
    .op true none (.pick (.r 3) (.r 0) (.c (.bool false))),
    .op true (some ((.r 0), true)) (.mv (.r 10)),
    .op true (some ((.r 1), true)) (.call 60 [(.r 0)]),
    .op true none (.pick (.r 2) (.r 0) (.c (.bool false))),
    .op true (some ((.r 0), true)) (.mv (.r 12)),
    .op true (some ((.r 1), true)) (.mv (.r 12)),
    .op true (some ((.r 2), true)) (.raw false (.lookup 128 (.tmp 25) (.tmp 26) false) 3 [(25, (.r 1)), (26, (.r 0))]),
    .op true (some ((.r 3), true)) (.bin .eql (.r 0) (.c (.int .i64 1))),
    .op true none (.pick (.r 4) (.r 0) (.c (.bool false))),
    .op true (some ((.r 0), true)) (.mv (.r 16)),
    .op true (some ((.r 1), true)) (.bin .neq (.r 0) (.c (.string (bs [105, 100, 51])))),
    .op true none (.pick (.r 2) (.r 0) (.c (.bool false))),
    .op true (some ((.r 0), true)) (.mv (.r 19)),
    .op true (some ((.r 1), true)) (.bin .neq (.r 0) (.c (.string (bs [116, 97, 103])))),
    .op true none (.pick (.r 2) (.r 0) (.c (.bool false))),
    .op true (some ((.r 0), true)) (.mv (.r 22)),
    .op true (some ((.r 1), true)) (.bin .neq (.r 0) (.c (.string (bs [111, 103, 103, 115])))),
    .op true none (.pick (.r 2) (.r 0) (.c (.bool false))),
    .op true (some ((.r 0), true)) (.mv (.r 25)),
    .op true (some ((.r 1), true)) (.bin .neq (.r 0) (.c (.string (bs [109, 112, 43])))),
    .op true none (.pick (.r 2) (.r 0) (.c (.bool false)))])
 (.ret [.v (.r 0)])))))
def c73 : FC :=
 (.seq (.ops [])
 (.seq (.ops [.op true none (.nilc (.r 0)),
    .op true none (.fad 1 (.r 0)),
    .op true none (.ld (.r 0)),
    .op true none (.lenL (.r 0))])
 (.ret [.v (.r 0)])))
def c74 : FC :=
 (.seq (.ops [])
 (.seq (.ops [])
 (.seq (.seq (.ops [])
  (.cond (.r 2)
   (.seq (.ops [.op true none (.bin .or (.c (.int .i64 2147483648)) (.c (.int .i64 536870912)))])
   (.ops [.shuf [(.r 1), (.r 2), (.r 0)]]))
   (.seq (.ops [])
   (.ops [.shuf [(.r 0), (.r 1), (.c (.int .i64 2147483648))]]))))
 (.seq (.ops [.op true none (.call 61 [(.c (.int .i64 2000))]),
    .op true none (.bin .add (.c (.string (bs [65, 80, 69, 84, 65, 71, 69, 88]))) (.r 0)),
    .op true none (.call 61 [(.r 2)]),
    .op true none (.bin .add (.r 1) (.r 0)),
    .op true none (.call 61 [(.r 5)]),
    .op true none (.bin .add (.r 1) (.r 0)),
    .op true none (.call 61 [(.r 8)]),
    .op true none (.bin .add (.r 1) (.r 0)),
    .op true none (.call 69 [(.c (.string (bs [0]))), (.c (.int .i64 8))]),
    .op true none (.bin .add (.r 1) (.r 0))])
 (.ret [.v (.r 0)])))))
def c77_1 : FC :=
 (.seq (.seq (.ops [.op true none (.bin .lss (.r 3) (.r 2))])
  (.seq (.cond (.r 0)
    (.ops [])
    (.exit 0 [(.r 2)]))
  (.seq (.block 1 (.seq (.seq (.ops [])
     (.ops [.op true none (.bin .mul (.c (.int .i64 8)) (.r 4)),
       .op true none (.bin .shr (.r 2) (.r 0)),
       .op true none (.cvi .u8 (.r 0)),
       .op true none (.iad 1 (.r 5) (.r 7)),
       .op false none (.st 1 (.r 0) (.r 1))]))
    (.ops [.shuf [(.r 5), (.r 6), (.r 7), (.r 8)]])))
  (.ops [.op true none (.bin .add (.r 3) (.c (.int .i64 1)))]))))
 (.ops [.shuf [(.r 1), (.r 2), (.r 3), (.r 0)]]))
def c77 : FC :=
 (.seq (.ops [])
 (.seq (.seq (.ops [.op true none (.bin .lss (.r 1) (.c (.int .i64 1))),
     .op true (some ((.r 0), false)) (.mv (.r 2)),
     .op true (some ((.r 1), false)) (.bin .gtr (.r 0) (.c (.int .i64 8))),
     .op true none (.pick (.r 2) (.c (.bool true)) (.r 0)),
     .op true (some ((.r 0), false)) (.mv (.r 4)),
     .op true (some ((.r 1), false)) (.bin .lss (.r 0) (.c (.int .i64 0))),
     .op true none (.pick (.r 2) (.c (.bool true)) (.r 0)),
     .op true (some ((.r 0), false)) (.mv (.r 8)),
     .op true (some ((.r 1), false)) (.bin .lss (.r 0) (.c (.int .i64 8))),
     .op true (some ((.r 2), false)) (.mv (.r 0)),
     .op true (some ((.r 0), true)) (.mv (.r 10)),
     .op true (some ((.r 1), true)) (.mv (.r 12)),
     .op true (some ((.r 2), true)) (.bin .mul (.c (.int .i64 8)) (.r 0)),
     .op true (some ((.r 3), true)) (.bin .shl (.c (.int .i64 1)) (.r 0)),
     .op true (some ((.r 4), true)) (.bin .geq (.r 3) (.r 0)),
     .op true (some ((.r 8), false)) (.pick (.r 5) (.r 0) (.c (.bool false))),
     .op true none (.pick (.r 9) (.c (.bool true)) (.r 0))])
  (.cond (.r 0)
   (.seq (.ops [])
   (.ret [.v (.c (.string (bs []))), .v (.c (.int .i64 11))]))
   (.ops [])))
 (.seq (.ops [.op true none (.raw false (.makeSlice 112 (.tmp 29) (.tmp 29)) 112 [(29, (.r 18)), (29, (.r 18))])])
 (.seq (.seq (.ops [])
  (.block 0 (.seq (.ops [.shuf [(.r 18), (.r 0), (.r 19), (.c (.int .i64 0))]])
   (.loop c77_1))))
 (.seq (.ops [.op true none (.raw false (.convert 112 9 (.tmp 44)) 9 [(44, (.r 0))])])
 (.ret [.v (.r 0), .v (.c (.int .i64 0))]))))))
def c80_1 : FC :=
 (.seq (.seq (.seq (.ops [.op true none (.bin .neq (.r 0) (.c (.string (bs []))))])
   (.cond (.r 0)
    (.ops [])
    (.exit 0 [(.r 2)])))
  (.block 1 (.seq (.seq (.seq (.ops [.op true none (.lenS (.r 1)),
        .op true none (.bin .lss (.r 0) (.c (.int .i64 8))),
        .op true (some ((.r 0), false)) (.mv (.r 3)),
        .op true (some ((.r 1), false)) (.sls (.r 0) none (some (.c (.int .i64 4)))),
        .op true (some ((.r 2), false)) (.call 60 [(.r 0)]),
        .op true (some ((.r 3), false)) (.nt (.r 0)),
        .op true none (.pick (.r 4) (.c (.bool true)) (.r 0)),
        .op true (some ((.r 0), false)) (.mv (.r 8)),
        .op true (some ((.r 1), false)) (.sls (.r 0) (some (.c (.int .i64 4))) (some (.c (.int .i64 8)))),
        .op true (some ((.r 2), false)) (.call 102 [(.r 0)]),
        .op true (some ((.r 3), false)) (.mv (.r 11)),
        .op true (some ((.r 4), false)) (.lenS (.r 0)),
        .op true (some ((.r 5), false)) (.bin .sub (.r 0) (.c (.int .i64 8))),
        .op true (some ((.r 6), false)) (.bin .gtr (.r 3) (.r 0)),
        .op true none (.pick (.r 7) (.c (.bool true)) (.r 0))])
     (.cond (.r 0)
      (.seq (.ops [])
      (.ret [.v (.c (.slice none 0 0)), .v (.c (.int .i64 2))]))
      (.ops [])))
    (.seq (.seq (.ops [.op true none (.lenL (.r 17)),
        .op true none (.bin .eql (.r 0) (.c (.int .i64 1024)))])
     (.cond (.r 0)
      (.seq (.ops [])
      (.ret [.v (.c (.slice none 0 0)), .v (.c (.int .i64 5))]))
      (.ops [])))
    (.seq (.ops [.op true none (.sls (.r 18) (some (.c (.int .i64 4))) (some (.c (.int .i64 8)))),
       .op true none (.call 102 [(.r 0)])])
    (.seq (.ops [.op true none (.bin .add (.c (.int .i64 8)) (.r 0)),
       .op true none (.sls (.r 21) (some (.c (.int .i64 8))) (some (.r 0))),
       .op true none (.call 103 [(.r 0), (.c (.string (bs [0])))]),
       .op true none (.ext (.r 0) 0),
       .op true none (.ext (.r 1) 1),
       .op true none (.ext (.r 2) 2)])
    (.seq (.ops [.op true none (.sls (.r 26) none (some (.c (.int .i64 4)))),
       .op true none (.raw false (.build 26 #[(0, (.tmp 54)), (1, (.tmp 55))]) 26 [(54, (.r 0)), (55, (.r 3))]),
       .op true none (.raw false (.buildSlice 22 1 #[(0, (.tmp 56))]) 22 [(56, (.r 0))]),
       .op true none (.raw false (.call ⟨.builtin .append, #[(.tmp 52), (.tmp 57)], #[22, 22]⟩) 22 [(52, (.r 30)), (57, (.r 0))])])
    (.seq (.ops [.op true none (.bin .add (.c (.int .i64 8)) (.r 10)),
       .op true none (.sls (.r 31) (some (.r 0)) none)])
    (.seq (.ops [.op true none (.bin .rem (.r 12) (.c (.int .i64 2))),
       .op true none (.bin .eql (.r 0) (.c (.int .i64 1))),
       .op true (some ((.r 0), true)) (.mv (.r 2)),
       .op true (some ((.r 1), true)) (.bin .neq (.r 0) (.c (.string (bs [])))),
       .op true none (.pick (.r 2) (.r 0) (.c (.bool false)))])
    (.cond (.r 0)
     (.seq (.seq (.seq (.ops [.op true none (.ixs (.r 5) (.c (.int .i64 0))),
          .op true none (.bin .neq (.r 0) (.c (.int .u8 0)))])
       (.cond (.r 0)
        (.seq (.ops [])
        (.ret [.v (.c (.slice none 0 0)), .v (.c (.int .i64 2))]))
        (.ops [])))
      (.ops [.op true none (.sls (.r 7) (some (.c (.int .i64 1))) none)]))
     (.ops [.shuf [(.r 0), (.r 10)]]))
     (.seq (.ops [])
     (.ops [.shuf [(.r 5), (.r 7)]]))))))))))
   (.ops [.shuf [(.r 0), (.r 1)]]))))
 (.ops [.shuf [(.r 0), (.r 1)]]))
def c80 : FC :=
 (.seq (.ops [])
 (.seq (.ops [.op true none (.call 101 [(.r 0), (.c (.string (bs [73, 78, 70, 79])))]),
    .op true none (.ext (.r 0) 0),
    .op true none (.ext (.r 1) 1)])
 (.seq (.seq (.ops [.op true none (.nt (.r 0))])
  (.cond (.r 0)
   (.seq (.ops [])
   (.ret [.v (.c (.slice none 0 0)), .v (.c (.int .i64 2))]))
   (.ops [])))
 (.seq (.ops [])
 (.seq (.block 0 (.seq (.ops [.shuf [(.r 2), (.c (.slice none 0 0))]])
   (.loop c80_1)))
 (.seq (.ops [])
 (.ret [.v (.r 0), .v (.c (.int .i64 0))])))))))
def c86_1 : FC :=
 (.seq (.seq (.seq (.ops [.op true none (.bin .lss (.r 5) (.r 6))])
   (.cond (.r 0)
    (.ops [])
    (.exit 1 [])))
  (.block 2 (.seq (.seq (.seq (.ops [.op true none (.ixs (.r 1) (.r 6)),
        .op true none (.bin .neq (.r 0) (.r 5))])
     (.cond (.r 0)
      (.seq (.seq (.ops [.op true none (.bin .add (.r 8) (.c (.int .i64 1))),
          .op true none (.sls (.r 4) (some (.r 0)) (some (.r 10))),
          .op true none (.call 114 [(.r 0), (.r 8)])])
       (.seq (.seq (.ops [.op true none (.bin .lss (.r 0) (.c (.int .i64 0)))])
        (.cond (.r 0)
         (.seq (.ops [])
         (.ret [.v (.c (.int .i64 (-1)))]))
         (.ops [])))
       (.ops [.op true none (.bin .add (.r 1) (.c (.int .i64 1))),
         .op true none (.bin .add (.r 13) (.r 0))])))
      (.ops [.shuf [(.r 9), (.r 10), (.r 11), (.r 12), (.r 13), (.r 0), (.r 15), (.r 16)]]))
      (.seq (.ops [])
      (.ops [.shuf [(.r 3), (.r 4), (.r 5), (.r 6), (.r 7), (.r 8), (.r 9), (.r 10)]]))))
    (.seq (.seq (.ops [.op true none (.bin .add (.r 5) (.c (.int .i64 1))),
        .op true none (.ixs (.r 1) (.r 0)),
        .op true none (.bin .eql (.r 0) (.r 6)),
        .op true (some ((.r 0), true)) (.mv (.r 3)),
        .op true (some ((.r 1), true)) (.mv (.r 9)),
        .op true (some ((.r 2), true)) (.mv (.r 10)),
        .op true (some ((.r 3), true)) (.mv (.r 8)),
        .op true (some ((.r 4), true)) (.bin .add (.r 1) (.r 0)),
        .op true (some ((.r 5), true)) (.sls (.r 4) (some (.r 3)) (some (.r 0))),
        .op true (some ((.r 6), true)) (.mv (.r 10)),
        .op true (some ((.r 7), true)) (.bin .eql (.r 1) (.r 0)),
        .op true none (.pick (.r 8) (.r 0) (.c (.bool false)))])
     (.cond (.r 0)
      (.seq (.ops [])
      (.ret [.v (.r 17)]))
      (.ops [])))
    (.seq (.ops [.op true none (.bin .add (.r 17) (.c (.int .i64 1)))])
    (.seq (.ops [.op true none (.bin .add (.r 20) (.c (.int .i64 1)))])
    (.seq (.ops [.op true none (.ld (.c (.pointer (some ⟨5, 0, none⟩)))),
       .op true none (.bin .leq (.r 17) (.r 0)),
       .op true (some ((.r 0), true)) (.mv (.r 2)),
       .op true (some ((.r 1), true)) (.mv (.r 4)),
       .op true (some ((.r 2), true)) (.call 116 [(.r 0)]),
       .op true (some ((.r 3), true)) (.bin .gtr (.r 2) (.r 0)),
       .op true none (.pick (.r 4) (.r 0) (.c (.bool false)))])
    (.cond (.r 0)
     (.seq (.ops [.op true none (.sls (.r 21) (some (.r 8)) none),
        .op true none (.raw false (.call ⟨.value (.func 115), #[(.tmp 110), (.tmp 111)], #[9, 9]⟩) 3 [(110, (.r 0)), (111, (.r 23))])])
     (.seq (.seq (.ops [.op true none (.bin .geq (.r 0) (.c (.int .i64 0)))])
      (.cond (.r 0)
       (.seq (.ops [.op true none (.bin .add (.r 1) (.r 11))])
       (.ret [.v (.r 0)]))
       (.ops [])))
     (.seq (.ops [])
     (.ret [.v (.c (.int .i64 (-1)))]))))
     (.seq (.ops [.op true none (.ld (.c (.pointer (some ⟨5, 0, none⟩)))),
        .op true none (.bin .gtr (.r 24) (.r 0)),
        .op true (some ((.r 0), true)) (.mv (.r 9)),
        .op true (some ((.r 1), true)) (.mv (.r 11)),
        .op true (some ((.r 2), true)) (.bin .shr (.r 0) (.c (.int .u64 4))),
        .op true (some ((.r 3), true)) (.bin .add (.c (.int .i64 4)) (.r 0)),
        .op true (some ((.r 4), true)) (.bin .geq (.r 3) (.r 0)),
        .op true none (.pick (.r 5) (.r 0) (.c (.bool false))),
        .op true (some ((.r 0), true)) (.mv (.r 16)),
        .op true (some ((.r 1), true)) (.mv (.r 36)),
        .op true (some ((.r 2), true)) (.bin .lss (.r 1) (.r 0)),
        .op true none (.pick (.r 3) (.r 0) (.c (.bool false)))])
     (.cond (.r 0)
      (.seq (.ops [.op true none (.sls (.r 33) (some (.r 20)) none),
         .op true none (.call 117 [(.r 0), (.r 35)])])
      (.seq (.seq (.ops [.op true none (.bin .lss (.r 0) (.c (.int .i64 0)))])
       (.cond (.r 0)
        (.seq (.ops [])
        (.ret [.v (.c (.int .i64 (-1)))]))
        (.ops [])))
      (.seq (.ops [.op true none (.bin .add (.r 23) (.r 1))])
      (.ret [.v (.r 0)]))))
      (.ops [])))))))))
   (.ops [.shuf [(.r 33), (.r 34), (.r 35), (.r 36), (.r 37), (.r 20), (.r 39), (.r 19)]]))))
 (.ops [.shuf [(.r 0), (.r 1), (.r 2), (.r 3), (.r 4), (.r 5), (.r 6), (.r 7)]]))
def c86 : FC :=
 (.seq (.ops [])
 (.seq (.ops [.op true none (.lenS (.r 1))])
 (.seq (.block 0 (.seq (.seq (.ops [.op true none (.bin .eql (.r 0) (.c (.int .i64 0))),
       .op true (some ((.r 0), false)) (.mv (.r 3)),
       .op true (some ((.r 1), false)) (.mv (.r 3)),
       .op true (some ((.r 2), false)) (.bin .eql (.r 1) (.r 0)),
       .op true none (.pick (.r 3) (.c (.bool true)) (.r 0))])
    (.cond (.r 0)
     (.seq (.ops [])
     (.ret [.v (.c (.int .i64 0))]))
     (.seq (.ops [.op true none (.bin .eql (.r 5) (.c (.int .i64 1)))])
     (.cond (.r 0)
      (.seq (.ops [.op true none (.ixs (.r 8) (.c (.int .i64 0))),
         .op true none (.call 114 [(.r 8), (.r 0)])])
      (.ret [.v (.r 0)]))
      (.seq (.ops [.op true none (.lenS (.r 7)),
         .op true none (.bin .geq (.r 7) (.r 0))])
      (.cond (.r 0)
       (.seq (.ops [])
       (.ret [.v (.c (.int .i64 (-1)))]))
       (.seq (.ops [.op true none (.ld (.c (.pointer (some ⟨5, 0, none⟩)))),
          .op true none (.bin .leq (.r 9) (.r 0)),
          .op true (some ((.r 0), true)) (.mv (.r 11)),
          .op true (some ((.r 1), true)) (.lenS (.r 0)),
          .op true (some ((.r 2), true)) (.bin .leq (.r 0) (.c (.int .i64 64))),
          .op true none (.pick (.r 3) (.r 0) (.c (.bool false)))])
       (.cond (.r 0)
        (.seq (.ops [.op true none (.raw false (.call ⟨.value (.func 115), #[(.tmp 45), (.tmp 46)], #[9, 9]⟩) 3 [(45, (.r 15)), (46, (.r 16))])])
        (.ret [.v (.r 0)]))
        (.ops [])))))))))
   (.ops [.shuf [(.r 15), (.r 16), (.r 14)]])))
 (.seq (.ops [.op true none (.ixs (.r 1) (.c (.int .i64 0)))])
 (.seq (.ops [.op true none (.ixs (.r 2) (.c (.int .i64 1)))])
 (.seq (.ops [])
 (.seq (.ops [.op true none (.lenS (.r 2)),
    .op true none (.bin .sub (.r 0) (.r 5)),
    .op true none (.bin .add (.r 0) (.c (.int .i64 1)))])
 (.seq (.ops [])
 (.seq (.block 1 (.seq (.ops [.shuf [(.r 5), (.r 6), (.r 7), (.r 4), (.r 3), (.c (.int .i64 0)), (.r 0), (.c (.int .i64 0))]])
   (.loop c86_1)))
 (.seq (.ops [])
 (.ret [.v (.c (.int .i64 (-1)))])))))))))))
def c92 : FC :=
 (.seq (.ops [])
 (.seq (.seq (.ops [.op true none (.bin .lss (.r 1) (.c (.int .i64 0)))])
  (.cond (.r 0)
   (.seq (.ops [.op true none (.mki 9 (.c (.string (bs [99, 97, 110, 110, 111, 116, 32, 98, 101, 32, 110, 101, 103, 97, 116, 105, 118, 101])))),
      .op false none (.raw false (.panic (.tmp 7)) 0 [(7, (.r 0))])])
   (.ops [.shuf [(.r 2), (.r 3)]]))
   (.seq (.ops [])
   (.ops [.shuf [(.r 1), (.r 2)]]))))
 (.seq (.seq (.ops [.op true none (.raw false (.call ⟨.builtin .cap, #[(.tmp 9)], #[27]⟩) 3 [(9, (.r 0))]),
     .op true none (.lenL (.r 1)),
     .op true none (.bin .sub (.r 1) (.r 0)),
     .op true none (.bin .sub (.r 4) (.r 0))])
  (.seq (.ops [.op true none (.bin .gtr (.r 0) (.c (.int .i64 0)))])
  (.cond (.r 0)
   (.seq (.ops [.op true none (.raw false (.call ⟨.builtin .cap, #[(.tmp 18)], #[27]⟩) 3 [(18, (.r 5))]),
      .op true none (.sll 3 47 (.r 6) none (some (.r 0))),
      .op true none (.raw false (.call ⟨.builtin .append, #[(.tmp 20), (.tmp 21)], #[27, 3]⟩) 27 [(20, (.r 0)), (21, (.r 3))]),
      .op true none (.lenL (.r 8)),
      .op true none (.sll 3 47 (.r 1) none (some (.r 0)))])
   (.ops [.shuf [(.r 0)]]))
   (.seq (.ops [])
   (.ops [.shuf [(.r 5)]])))))
 (.seq (.ops [])
 (.ret [.v (.r 0)])))))
def c94_1 : FC :=
 (.seq (.seq (.ops [.op true none (.bin .lss (.r 2) (.r 1))])
  (.seq (.cond (.r 0)
    (.ops [])
    (.exit 0 [(.r 1)]))
  (.seq (.block 1 (.seq (.seq (.ops [])
     (.seq (.ops [.op true none (.lenL (.r 1)),
        .op true none (.bin .sub (.r 0) (.c (.int .i64 1))),
        .op true none (.bin .sub (.r 0) (.r 5))])
     (.ops [.op true none (.iad 1 (.r 4) (.r 0)),
       .op true none (.ld (.r 0)),
       .op true none (.iad 1 (.r 6) (.r 8)),
       .op true none (.ld (.r 0)),
       .op true none (.iad 1 (.r 8) (.r 10)),
       .op false none (.st 1 (.r 0) (.r 3)),
       .chk none (.mv (.r 5)) (.r 5),
       .chk none (.mv (.r 9)) (.r 9),
       .op true none (.iad 1 (.r 9) (.r 5)),
       .op false none (.st 1 (.r 0) (.r 2))])))
    (.ops [.shuf [(.r 10), (.r 11), (.r 12)]])))
  (.ops [.op true none (.bin .add (.r 2) (.c (.int .i64 1)))]))))
 (.ops [.shuf [(.r 1), (.r 2), (.r 0)]]))
def c94 : FC :=
 (.seq (.ops [])
 (.seq (.ops [.op true none (.raw false (.convert 9 112 (.tmp 6)) 112 [(6, (.r 0))])])
 (.seq (.seq (.ops [.op true none (.lenL (.r 0)),
     .op true none (.bin .quo (.r 0) (.c (.int .i64 2)))])
  (.block 0 (.seq (.ops [.shuf [(.r 2), (.r 0), (.c (.int .i64 0))]])
   (.loop c94_1))))
 (.seq (.ops [.op true none (.raw false (.convert 112 9 (.tmp 34)) 9 [(34, (.r 0))])])
 (.ret [.v (.r 0)])))))
def c97 : FC :=
 (.seq (.ops [])
 (.seq (.seq (.ops [.op true none (.bin .lss (.r 1) (.c (.int .i64 0)))])
  (.cond (.r 0)
   (.seq (.ops [.op true none (.mki 9 (.c (.string (bs [99, 97, 110, 110, 111, 116, 32, 98, 101, 32, 110, 101, 103, 97, 116, 105, 118, 101])))),
      .op false none (.raw false (.panic (.tmp 7)) 0 [(7, (.r 0))])])
   (.ops [.shuf [(.r 2), (.r 3)]]))
   (.seq (.ops [])
   (.ops [.shuf [(.r 1), (.r 2)]]))))
 (.seq (.seq (.ops [.op true none (.raw false (.call ⟨.builtin .cap, #[(.tmp 9)], #[38]⟩) 3 [(9, (.r 0))]),
     .op true none (.lenL (.r 1)),
     .op true none (.bin .sub (.r 1) (.r 0)),
     .op true none (.bin .sub (.r 4) (.r 0))])
  (.seq (.ops [.op true none (.bin .gtr (.r 0) (.c (.int .i64 0)))])
  (.cond (.r 0)
   (.seq (.ops [.op true none (.raw false (.call ⟨.builtin .cap, #[(.tmp 18)], #[38]⟩) 3 [(18, (.r 5))]),
      .op true none (.sll 3 50 (.r 6) none (some (.r 0))),
      .op true none (.raw false (.call ⟨.builtin .append, #[(.tmp 20), (.tmp 21)], #[38, 3]⟩) 38 [(20, (.r 0)), (21, (.r 3))]),
      .op true none (.lenL (.r 8)),
      .op true none (.sll 3 50 (.r 1) none (some (.r 0)))])
   (.ops [.shuf [(.r 0)]]))
   (.seq (.ops [])
   (.ops [.shuf [(.r 5)]])))))
 (.seq (.ops [])
 (.ret [.v (.r 0)])))))
def c101 : FC :=
 (.seq (.ops [])
 (.seq (.ops [.op true none (.call 132 [(.r 0), (.r 1)]),
    .op true none (.ext (.r 0) 0),
    .op true none (.ext (.r 1) 1)])
 (.ret [.v (.r 1), .v (.r 0)])))
def c102 : FC :=
 (.seq (.ops [])
 (.seq (.ops [.op true none (.call 94 [(.r 0)]),
    .op true none (.call 108 [(.r 0)])])
 (.ret [.v (.r 0)])))
def c103 : FC :=
 (.seq (.ops [])
 (.seq (.ops [.op true none (.call 133 [(.r 0), (.r 1)]),
    .op true none (.ext (.r 0) 0),
    .op true none (.ext (.r 1) 1),
    .op true none (.ext (.r 2) 2)])
 (.ret [.v (.r 2), .v (.r 1), .v (.r 0)])))
def c108_1 : FC :=
 (.seq (.seq (.ops [.op true none (.bin .lss (.r 3) (.r 2))])
  (.seq (.cond (.r 0)
    (.ops [])
    (.exit 0 [(.r 2)]))
  (.seq (.block 1 (.seq (.seq (.ops [])
     (.ops [.op true none (.bin .shl (.r 2) (.c (.int .u64 8))),
       .op true none (.ixs (.r 2) (.r 5)),
       .op true none (.cvi .u64 (.r 0)),
       .op true none (.bin .or (.r 2) (.r 0))]))
    (.ops [.shuf [(.r 5), (.r 0), (.r 7), (.r 8)]])))
  (.ops [.op true none (.bin .add (.r 3) (.c (.int .i64 1)))]))))
 (.ops [.shuf [(.r 1), (.r 2), (.r 3), (.r 0)]]))
def c108 : FC :=
 (.seq (.ops [])
 (.seq (.seq (.ops [.op true none (.lenS (.r 0)),
     .op true none (.bin .gtr (.r 0) (.c (.int .i64 8)))])
  (.cond (.r 0)
   (.seq (.ops [])
   (.ret [.v (.c (.int .i64 (-1)))]))
   (.ops [])))
 (.seq (.ops [])
 (.seq (.seq (.ops [.op true none (.lenS (.r 2))])
  (.block 0 (.seq (.ops [.shuf [(.r 3), (.c (.int .u64 0)), (.r 0), (.c (.int .i64 0))]])
   (.loop c108_1))))
 (.seq (.seq (.ops [.op true none (.bin .geq (.r 0) (.c (.int .u64 9223372036854775808)))])
  (.cond (.r 0)
   (.seq (.ops [])
   (.ret [.v (.c (.int .i64 (-1)))]))
   (.ops [])))
 (.seq (.ops [.op true none (.cvi .i64 (.r 1))])
 (.ret [.v (.r 0)])))))))
def c114 : FC :=
 (.seq (.ops [])
 (.seq (.ops [.op true none (.raw false (.call ⟨.value (.func 140), #[(.tmp 5), (.tmp 6)], #[9, 5]⟩) 3 [(5, (.r 0)), (6, (.r 1))])])
 (.ret [.v (.r 0)])))
def c132 : FC :=
 (.seq (.ops [])
 (.seq (.seq (.ops [.op true none (.call 52 [(.r 0), (.r 1)]),
     .op true none (.nt (.r 0))])
  (.cond (.r 0)
   (.seq (.ops [])
   (.ret [.v (.r 2), .v (.c (.bool false))]))
   (.ops [])))
 (.seq (.ops [.op true none (.lenS (.r 3)),
    .op true none (.sls (.r 3) (some (.r 0)) none)])
 (.ret [.v (.r 0), .v (.c (.bool true))]))))
def c133 : FC :=
 (.seq (.ops [])
 (.seq (.seq (.ops [.op true none (.call 86 [(.r 0), (.r 1)])])
  (.seq (.ops [.op true none (.bin .geq (.r 0) (.c (.int .i64 0)))])
  (.cond (.r 0)
   (.seq (.ops [.op true none (.sls (.r 2) none (some (.r 1))),
      .op true none (.lenS (.r 4)),
      .op true none (.bin .add (.r 3) (.r 0)),
      .op true none (.sls (.r 5) (some (.r 0)) none),
      .chk none (.sls (.r 6) (some (.r 1)) none) (.r 0),
      .chk none (.bin .add (.r 5) (.r 2)) (.r 1),
      .chk none (.lenS (.r 7)) (.r 2),
      .chk none (.mv (.r 7)) (.r 7),
      .chk none (.mv (.r 5)) (.r 5),
      .chk none (.mv (.r 6)) (.r 6)])
   (.ret [.v (.r 3), .v (.r 0), .v (.c (.bool true))]))
   (.ops []))))
 (.seq (.ops [])
 (.ret [.v (.r 2), .v (.c (.string (bs []))), .v (.c (.bool false))]))))
end Go.AM.Fld
