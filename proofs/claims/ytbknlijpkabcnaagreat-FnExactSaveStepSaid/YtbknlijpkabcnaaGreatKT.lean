/- The table of the types of this seat, checked against the program. No condition. -/
import Derived.Test.YtbknlijpkabcnaaGreatK24
import Derived.Test.YtbknlijpkabcnaaGreatProg
import Derived.KernelRfl
namespace Go.Proofs.YtbknlijpkabcnaaGreat.K
open Go

def tree : BT :=
 (.node 50 ⟨.slice 181, 1, 24, .nil⟩
  (.node 21 ⟨.int .i32, 1, 4, .i .i32 0⟩
   (.node 11 ⟨.str, 1, 16, .s []⟩
    (.node 6 ⟨.int .u8, 1, 1, .i .u8 0⟩
     (.node 4 ⟨.bool, 1, 1, .b false⟩
      (.node 3 ⟨.int .i64, 1, 8, .i .i64 0⟩
       (.node 2 ⟨.int .i64, 1, 8, .i .i64 0⟩
        .leaf
        .leaf)
       .leaf)
      (.node 5 ⟨.int .u8, 1, 1, .i .u8 0⟩
       .leaf
       .leaf))
     (.node 9 ⟨.str, 1, 16, .s []⟩
      (.node 8 ⟨.struct [(0, 2), (1, 3), (2, 4), (3, 6)], 4, 24, .agg [.i .i64 0, .i .i64 0, .b false, .i .u8 0]⟩
       (.node 7 ⟨.struct [(0, 2), (1, 3), (2, 4), (3, 6)], 4, 24, .agg [.i .i64 0, .i .i64 0, .b false, .i .u8 0]⟩
        .leaf
        .leaf)
       .leaf)
      (.node 10 ⟨.str, 1, 16, .s []⟩
       .leaf
       .leaf)))
    (.node 16 ⟨.ptr 218, 1, 8, .np⟩
     (.node 14 ⟨.struct [(0, 9), (1, 12)], 2, 24, .agg [.s [], .i .u64 0]⟩
      (.node 13 ⟨.struct [(0, 9), (1, 12)], 2, 24, .agg [.s [], .i .u64 0]⟩
       (.node 12 ⟨.int .u64, 1, 8, .i .u64 0⟩
        .leaf
        .leaf)
       .leaf)
      (.node 15 ⟨.ptr 215, 1, 8, .np⟩
       .leaf
       .leaf))
     (.node 19 ⟨.struct [(0, 17)], 1, 8, .agg [.np]⟩
      (.node 18 ⟨.struct [(0, 17)], 1, 8, .agg [.np]⟩
       (.node 17 ⟨.ptr 227, 1, 8, .np⟩
        .leaf
        .leaf)
       .leaf)
      (.node 20 ⟨.iface, 1, 16, .ni⟩
       .leaf
       .leaf))))
   (.node 32 ⟨.struct [(0, 26), (1, 27), (2, 28), (3, 29), (4, 30), (5, 3)], 6, 128, .agg [.nil, .nil, .nil, .nil, .nil, .i .i64 0]⟩
    (.node 27 ⟨.slice 102, 1, 24, .nil⟩
     (.node 24 ⟨.struct [(0, 3), (1, 22)], 2, 32, .agg [.i .i64 0, .nil]⟩
      (.node 23 ⟨.struct [(0, 3), (1, 22)], 2, 32, .agg [.i .i64 0, .nil]⟩
       (.node 22 ⟨.slice 92, 1, 24, .nil⟩
        .leaf
        .leaf)
       .leaf)
      (.node 26 ⟨.slice 101, 1, 24, .nil⟩
       .leaf
       .leaf))
     (.node 30 ⟨.slice 108, 1, 24, .nil⟩
      (.node 29 ⟨.slice 106, 1, 24, .nil⟩
       (.node 28 ⟨.slice 104, 1, 24, .nil⟩
        .leaf
        .leaf)
       .leaf)
      (.node 31 ⟨.struct [(0, 26), (1, 27), (2, 28), (3, 29), (4, 30), (5, 3)], 6, 128, .agg [.nil, .nil, .nil, .nil, .nil, .i .i64 0]⟩
       .leaf
       .leaf)))
    (.node 39 ⟨.struct [(0, 3), (1, 37)], 2, 32, .agg [.i .i64 0, .nil]⟩
     (.node 37 ⟨.slice 93, 1, 24, .nil⟩
      (.node 34 ⟨.struct [(0, 3), (1, 32)], 7, 136, .agg [.i .i64 0, .nil, .nil, .nil, .nil, .nil, .i .i64 0]⟩
       (.node 33 ⟨.struct [(0, 3), (1, 32)], 7, 136, .agg [.i .i64 0, .nil, .nil, .nil, .nil, .nil, .i .i64 0]⟩
        .leaf
        .leaf)
       .leaf)
      (.node 38 ⟨.struct [(0, 3), (1, 37)], 2, 32, .agg [.i .i64 0, .nil]⟩
       .leaf
       .leaf))
     (.node 48 ⟨.slice 177, 1, 24, .nil⟩
      (.node 47 ⟨.slice 175, 1, 24, .nil⟩
       (.node 46 ⟨.slice 173, 1, 24, .nil⟩
        .leaf
        .leaf)
       .leaf)
      (.node 49 ⟨.slice 179, 1, 24, .nil⟩
       .leaf
       .leaf)))))
  (.node 108 ⟨.struct [(0, 3), (1, 3), (2, 3), (3, 3), (4, 3), (5, 3), (6, 3), (7, 3)], 8, 64, .agg [.i .i64 0, .i .i64 0, .i .i64 0, .i .i64 0, .i .i64 0, .i .i64 0, .i .i64 0, .i .i64 0]⟩
   (.node 96 ⟨.slice 3, 1, 24, .nil⟩
    (.node 65 ⟨.slice 5, 1, 24, .nil⟩
     (.node 53 ⟨.struct [(0, 3), (1, 52)], 7, 136, .agg [.i .i64 0, .nil, .nil, .nil, .nil, .nil, .i .i64 0]⟩
      (.node 52 ⟨.struct [(0, 46), (1, 47), (2, 48), (3, 49), (4, 50), (5, 3)], 6, 128, .agg [.nil, .nil, .nil, .nil, .nil, .i .i64 0]⟩
       (.node 51 ⟨.struct [(0, 46), (1, 47), (2, 48), (3, 49), (4, 50), (5, 3)], 6, 128, .agg [.nil, .nil, .nil, .nil, .nil, .i .i64 0]⟩
        .leaf
        .leaf)
       .leaf)
      (.node 54 ⟨.struct [(0, 3), (1, 52)], 7, 136, .agg [.i .i64 0, .nil, .nil, .nil, .nil, .nil, .i .i64 0]⟩
       .leaf
       .leaf))
     (.node 93 ⟨.struct [(0, 3), (1, 9), (2, 9)], 3, 40, .agg [.i .i64 0, .s [], .s []]⟩
      (.node 92 ⟨.struct [(0, 3), (1, 9), (2, 9)], 3, 40, .agg [.i .i64 0, .s [], .s []]⟩
       (.node 91 ⟨.struct [(0, 3), (1, 9), (2, 9)], 3, 40, .agg [.i .i64 0, .s [], .s []]⟩
        .leaf
        .leaf)
       .leaf)
      (.node 95 ⟨.int .u64, 1, 8, .i .u64 0⟩
       .leaf
       .leaf)))
    (.node 103 ⟨.struct [(0, 3), (1, 3), (2, 3)], 3, 24, .agg [.i .i64 0, .i .i64 0, .i .i64 0]⟩
     (.node 101 ⟨.struct [(0, 3), (1, 3)], 2, 16, .agg [.i .i64 0, .i .i64 0]⟩
      (.node 100 ⟨.struct [(0, 3), (1, 3)], 2, 16, .agg [.i .i64 0, .i .i64 0]⟩
       (.node 97 ⟨.slice 96, 1, 24, .nil⟩
        .leaf
        .leaf)
       .leaf)
      (.node 102 ⟨.struct [(0, 3), (1, 3)], 2, 16, .agg [.i .i64 0, .i .i64 0]⟩
       .leaf
       .leaf))
     (.node 106 ⟨.struct [(0, 3), (1, 3), (2, 3), (3, 3), (4, 3)], 5, 40, .agg [.i .i64 0, .i .i64 0, .i .i64 0, .i .i64 0, .i .i64 0]⟩
      (.node 105 ⟨.struct [(0, 3), (1, 3), (2, 3), (3, 3), (4, 3)], 5, 40, .agg [.i .i64 0, .i .i64 0, .i .i64 0, .i .i64 0, .i .i64 0]⟩
       (.node 104 ⟨.struct [(0, 3), (1, 3), (2, 3)], 3, 24, .agg [.i .i64 0, .i .i64 0, .i .i64 0]⟩
        .leaf
        .leaf)
       .leaf)
      (.node 107 ⟨.struct [(0, 3), (1, 3), (2, 3), (3, 3), (4, 3), (5, 3), (6, 3), (7, 3)], 8, 64, .agg [.i .i64 0, .i .i64 0, .i .i64 0, .i .i64 0, .i .i64 0, .i .i64 0, .i .i64 0, .i .i64 0]⟩
       .leaf
       .leaf))))
   (.node 201 ⟨.slice 65, 1, 24, .nil⟩
    (.node 173 ⟨.struct [(0, 3), (1, 3)], 2, 16, .agg [.i .i64 0, .i .i64 0]⟩
     (.node 115 ⟨.struct [(0, 65), (1, 3), (2, 4)], 3, 40, .agg [.nil, .i .i64 0, .b false]⟩
      (.node 114 ⟨.struct [(0, 65), (1, 3), (2, 4)], 3, 40, .agg [.nil, .i .i64 0, .b false]⟩
       (.node 113 ⟨.ptr 115, 1, 8, .np⟩
        .leaf
        .leaf)
       .leaf)
      (.node 152 ⟨.ptr 39, 1, 8, .np⟩
       .leaf
       .leaf))
     (.node 179 ⟨.struct [(0, 3), (1, 3), (2, 3), (3, 3), (4, 3)], 5, 40, .agg [.i .i64 0, .i .i64 0, .i .i64 0, .i .i64 0, .i .i64 0]⟩
      (.node 177 ⟨.struct [(0, 3), (1, 3), (2, 3)], 3, 24, .agg [.i .i64 0, .i .i64 0, .i .i64 0]⟩
       (.node 175 ⟨.struct [(0, 3), (1, 3)], 2, 16, .agg [.i .i64 0, .i .i64 0]⟩
        .leaf
        .leaf)
       .leaf)
      (.node 181 ⟨.struct [(0, 3), (1, 3), (2, 3), (3, 3), (4, 3), (5, 3), (6, 3), (7, 3)], 8, 64, .agg [.i .i64 0, .i .i64 0, .i .i64 0, .i .i64 0, .i .i64 0, .i .i64 0, .i .i64 0, .i .i64 0]⟩
       .leaf
       .leaf)))
    (.node 221 ⟨.int .u8, 1, 1, .i .u8 0⟩
     (.node 219 ⟨.int .u32, 1, 4, .i .u32 0⟩
      (.node 215 ⟨.struct [(0, 17), (1, 17), (2, 17), (3, 9)], 4, 40, .agg [.np, .np, .np, .s []]⟩
       (.node 214 ⟨.struct [(0, 17), (1, 17), (2, 17), (3, 9)], 4, 40, .agg [.np, .np, .np, .s []]⟩
        .leaf
        .leaf)
       .leaf)
      (.node 220 ⟨.int .u8, 1, 1, .i .u8 0⟩
       .leaf
       .leaf))
     (.node 224 ⟨.int .i32, 1, 4, .i .i32 0⟩
      (.node 223 ⟨.ptr 5, 1, 8, .np⟩
       .leaf
       .leaf)
      (.node 225 ⟨.int .i32, 1, 4, .i .i32 0⟩
       .leaf
       .leaf))))))

abbrev T : Tab := tree.get

theorem tree_ok : tree.okB Tryz.prog = true := by kernel_rfl
theorem hT : Tab.Ok Tryz.prog T := BT.ok tree_ok
theorem mixed : Tryz.prog.follows .mixedOrders = true := by kernel_rfl

end Go.Proofs.YtbknlijpkabcnaaGreat.K
