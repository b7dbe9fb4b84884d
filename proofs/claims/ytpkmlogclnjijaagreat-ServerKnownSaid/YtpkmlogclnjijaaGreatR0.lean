import Derived.Test.YtpkmlogclnjijaaGreatAm43
/-! The resolved form of the program's functions, written by program. -/
set_option linter.unusedVariables false
namespace Go.AM
open Go.Proofs

/-- doubletake/doubletakelaw19.ServerKnown -/
def r3 : RFn := ⟨0,
  .seq (
  .reg [⟨(some 0), none, (.q (.mov (.k (.bool false))))⟩] [5, 9]) (
  .seq (
  .reg [⟨(some 18), none, (.ac (.callf 6 []))⟩,
    ⟨(some 19), none, (.ac (.callf 5 [(.t 18)]))⟩,
    ⟨(some 17), none, (.q (.mov (.t 19)))⟩,
    ⟨(some 20), none, (.q (.ext 0 (.t 17)))⟩,
    ⟨(some 21), none, (.q (.ext 1 (.t 17)))⟩,
    ⟨(some 1), none, (.q (.mov (.t 20)))⟩,
    ⟨(some 2), none, (.q (.mov (.t 21)))⟩] [1, 5, 9]) (
  .seq (
  .reg [⟨(some 23), none, (.q (.bld (.agg [1, 1, 1, 1, 1, 1, 1, 1, 1, 1] [(.sc (.int .i64 0)), (.sc (.int .i64 0)), (.sc (.int .i64 0)), (.sc (.int .i64 0)), (.sc (.int .i64 0)), (.sc (.int .i64 0)), (.sc (.float .f64 0)), (.sc (.float .f64 0)), (.slice none 0), (.slice none 0)]) []))⟩,
    ⟨(some 24), none, (.ac (.callf 5 [(.t 23)]))⟩,
    ⟨(some 22), none, (.q (.mov (.t 24)))⟩,
    ⟨(some 25), none, (.q (.ext 0 (.t 22)))⟩,
    ⟨(some 26), none, (.q (.ext 1 (.t 22)))⟩,
    ⟨(some 3), none, (.q (.mov (.t 25)))⟩,
    ⟨(some 4), none, (.q (.mov (.t 26)))⟩] [1, 4, 5, 9]) (
  .seq (
  .seq (
  .reg [⟨(some 27), none, (.ac (.callf 7 []))⟩,
    ⟨(some 28), none, (.q (.un .not (.t 27)))⟩,
    ⟨(some 29), none, (.q (.mov (.t 28)))⟩,
    ⟨(some 30), (some (29, false)), (.q (.mov (.t 1)))⟩,
    ⟨(some 31), (some (29, false)), (.q (.nil 0 false (.t 30)))⟩,
    ⟨(some 32), none, (.q (.pick (.t 29) (.k (.bool true)) (.t 31)))⟩] [1, 4, 5, 9, 32]) (
  .cond (.t 32) (
   .seq (
   .reg [⟨(some 0), none, (.q (.mov (.k (.bool false))))⟩] [0, 5, 9]) (
   .ret)) (
   .skip))) (
  .seq (
  .reg [⟨(some 33), none, (.q (.bld (.agg [1, 1, 1] [(.sc (.int .i64 0)), (.sc (.int .i64 0)), (.sc (.int .i64 0))]) [(0, (.k (.int .i64 9))), (1, (.k (.int .i64 64)))]))⟩,
    ⟨(some 5), none, (.al (.alloc (.agg [1, 1, 1] [(.sc (.int .i64 0)), (.sc (.int .i64 0)), (.sc (.int .i64 0))])))⟩,
    ⟨none, none, (.ac (.st 3 (.t 5) (.t 33)))⟩] [1, 4, 5, 9]) (
  .seq (
  .reg [⟨(some 34), none, (.q (.mov (.t 1)))⟩,
    ⟨(some 35), none, (.rd (.ld true 3 (.t 5)))⟩,
    ⟨(some 36), none, (.rd (.ld true 3 (.t 5)))⟩,
    ⟨(some 37), none, (.al (.bldS 3 2 (.agg [1, 1, 1] [(.sc (.int .i64 0)), (.sc (.int .i64 0)), (.sc (.int .i64 0))]) [(0, (.t 35)), (1, (.t 36))]))⟩,
    ⟨(some 38), none, (.q (.bld (.agg [1, 1, 1, 1, 1, 1, 1, 1, 1, 1, 1, 1, 1] [(.sc (.int .i64 0)), (.sc (.int .i64 0)), (.sc (.int .i64 0)), (.sc (.int .i64 0)), (.sc (.bool false)), (.sc (.int .u64 0)), (.sc (.int .i64 0)), (.sc (.int .i64 0)), (.slice none 0), (.sc (.int .i64 0)), (.slice none 0), (.sc (.int .i64 0)), (.sc (.int .i64 0))]) [(0, (.k (.int .i64 2))), (2, (.k (.int .i64 1))), (6, (.k (.int .i64 500))), (7, (.k (.int .i64 0))), (8, (.t 37))]))⟩,
    ⟨(some 39), none, (.ac (.callf 9 [(.k (.int .i64 7)), (.t 38)]))⟩,
    ⟨(some 40), none, (.ac (.callf 8 [(.t 34), (.k (.int .i64 3)), (.t 39), (.k (.int .i64 0))]))⟩,
    ⟨(some 6), none, (.q (.mov (.t 40)))⟩] [1, 4, 5, 6, 9]) (
  .seq (
  .reg [⟨(some 41), none, (.q (.mov (.t 1)))⟩,
    ⟨(some 42), none, (.ac (.callf 10 [(.t 41), (.k (.int .i64 0))]))⟩,
    ⟨(some 7), none, (.q (.mov (.t 42)))⟩] [1, 4, 5, 6, 7, 9]) (
  .seq (
  .reg [⟨(some 43), none, (.q (.mov (.t 1)))⟩,
    ⟨(some 44), none, (.ac (.callf 11 [(.t 43), (.k (.int .i64 1))]))⟩,
    ⟨(some 8), none, (.q (.mov (.t 44)))⟩] [1, 4, 5, 6, 7, 8, 9]) (
  .seq (
  .seq (
  .reg [⟨(some 45), none, (.q (.mov (.t 8)))⟩,
    ⟨(some 46), none, (.q (.len false (.t 45)))⟩,
    ⟨(some 47), none, (.q (.bin .neq 3 (.t 46) (.k (.int .i64 1))))⟩] [1, 4, 5, 6, 7, 8, 9, 47]) (
  .cond (.t 47) (
   .seq (
   .reg [⟨(some 0), none, (.q (.mov (.k (.bool false))))⟩] [0, 5, 9]) (
   .ret)) (
   .skip))) (
  .seq (
  .reg [⟨(some 49), none, (.q (.mov (.t 8)))⟩,
    ⟨(some 50), none, (.q (.ixs 2 (.t 49) (.k (.int .i64 0))))⟩,
    ⟨(some 51), none, (.q (.fld 1 1 (.t 50)))⟩,
    ⟨(some 52), none, (.rd (.ld false 1 (.t 51)))⟩,
    ⟨(some 53), none, (.ac (.callf 12 [(.k (.int .i64 7)), (.t 52)]))⟩,
    ⟨(some 48), none, (.q (.mov (.t 53)))⟩,
    ⟨(some 54), none, (.q (.ext 0 (.t 48)))⟩,
    ⟨(some 55), none, (.q (.ext 1 (.t 48)))⟩,
    ⟨(some 9), none, (.al (.alloc (.agg [1, 1, 1, 1, 1, 1, 1, 1, 1, 1, 1, 1, 1] [(.sc (.int .i64 0)), (.sc (.int .i64 0)), (.sc (.int .i64 0)), (.sc (.int .i64 0)), (.sc (.bool false)), (.sc (.int .u64 0)), (.sc (.int .i64 0)), (.sc (.int .i64 0)), (.slice none 0), (.sc (.int .i64 0)), (.slice none 0), (.sc (.int .i64 0)), (.sc (.int .i64 0))])))⟩,
    ⟨none, none, (.ac (.st 13 (.t 9) (.t 54)))⟩,
    ⟨(some 10), none, (.q (.mov (.t 55)))⟩] [1, 4, 5, 6, 7, 9]) (
  .seq (
  .reg [⟨(some 56), none, (.q (.mov (.t 1)))⟩,
    ⟨(some 57), none, (.ac (.callf 11 [(.t 56), (.k (.int .i64 2))]))⟩] [1, 4, 5, 6, 7, 9]) (
  .seq (
  .reg [⟨(some 58), none, (.q (.mov (.t 1)))⟩,
    ⟨(some 59), none, (.q (.bld (.agg [1, 1, 1, 1, 1, 1, 1, 1, 1, 1, 1, 1, 1] [(.sc (.int .i64 0)), (.sc (.int .i64 0)), (.sc (.int .i64 0)), (.sc (.int .i64 0)), (.sc (.bool false)), (.sc (.int .u64 0)), (.sc (.int .i64 0)), (.sc (.int .i64 0)), (.slice none 0), (.sc (.int .i64 0)), (.slice none 0), (.sc (.int .i64 0)), (.sc (.int .i64 0))]) [(0, (.k (.int .i64 4))), (2, (.k (.int .i64 2))), (11, (.k (.int .i64 2))), (12, (.k (.int .i64 5)))]))⟩,
    ⟨(some 60), none, (.ac (.callf 9 [(.k (.int .i64 7)), (.t 59)]))⟩,
    ⟨(some 61), none, (.ac (.callf 8 [(.t 58), (.k (.int .i64 3)), (.t 60), (.k (.int .i64 2))]))⟩,
    ⟨(some 11), none, (.q (.mov (.t 61)))⟩] [1, 4, 5, 6, 7, 9, 11]) (
  .seq (
  .reg [⟨(some 62), none, (.ac (.callf 6 []))⟩,
    ⟨(some 63), none, (.q (.mov (.t 1)))⟩,
    ⟨(some 64), none, (.ac (.callf 14 [(.t 63)]))⟩,
    ⟨(some 65), none, (.ac (.callf 13 [(.t 62), (.t 64)]))⟩,
    ⟨(some 12), none, (.q (.mov (.t 65)))⟩] [1, 4, 5, 6, 7, 9, 11, 12]) (
  .seq (
  .reg [⟨(some 66), none, (.q (.mov (.t 1)))⟩,
    ⟨(some 67), none, (.q (.mov (.t 12)))⟩,
    ⟨(some 68), none, (.q (.bld (.agg [1, 1, 1, 1, 1, 1, 1, 1, 1, 1, 1, 1, 1] [(.sc (.int .i64 0)), (.sc (.int .i64 0)), (.sc (.int .i64 0)), (.sc (.int .i64 0)), (.sc (.bool false)), (.sc (.int .u64 0)), (.sc (.int .i64 0)), (.sc (.int .i64 0)), (.slice none 0), (.sc (.int .i64 0)), (.slice none 0), (.sc (.int .i64 0)), (.sc (.int .i64 0))]) [(0, (.k (.int .i64 4))), (1, (.k (.int .i64 1))), (2, (.k (.int .i64 2))), (11, (.k (.int .i64 2))), (12, (.t 67))]))⟩,
    ⟨(some 69), none, (.ac (.callf 9 [(.k (.int .i64 8)), (.t 68)]))⟩,
    ⟨(some 70), none, (.ac (.callf 8 [(.t 66), (.k (.int .i64 4)), (.t 69), (.k (.int .i64 2))]))⟩,
    ⟨(some 13), none, (.q (.mov (.t 70)))⟩] [1, 4, 5, 6, 7, 9, 11, 13]) (
  .seq (
  .reg [⟨(some 71), none, (.q (.mov (.t 1)))⟩,
    ⟨(some 72), none, (.q (.bld (.agg [1, 1, 1, 1, 1, 1, 1, 1, 1, 1, 1, 1, 1] [(.sc (.int .i64 0)), (.sc (.int .i64 0)), (.sc (.int .i64 0)), (.sc (.int .i64 0)), (.sc (.bool false)), (.sc (.int .u64 0)), (.sc (.int .i64 0)), (.sc (.int .i64 0)), (.slice none 0), (.sc (.int .i64 0)), (.slice none 0), (.sc (.int .i64 0)), (.sc (.int .i64 0))]) [(0, (.k (.int .i64 4))), (1, (.k (.int .i64 1))), (2, (.k (.int .i64 3))), (11, (.k (.int .i64 3))), (12, (.k (.int .i64 5)))]))⟩,
    ⟨(some 73), none, (.ac (.callf 9 [(.k (.int .i64 8)), (.t 72)]))⟩,
    ⟨(some 74), none, (.ac (.callf 8 [(.t 71), (.k (.int .i64 4)), (.t 73), (.k (.int .i64 2))]))⟩,
    ⟨(some 14), none, (.q (.mov (.t 74)))⟩] [1, 4, 5, 6, 7, 9, 11, 13, 14]) (
  .seq (
  .reg [⟨(some 75), none, (.q (.mov (.t 1)))⟩,
    ⟨(some 76), none, (.rd (.ld true 3 (.t 5)))⟩,
    ⟨(some 77), none, (.al (.bldS 3 1 (.agg [1, 1, 1] [(.sc (.int .i64 0)), (.sc (.int .i64 0)), (.sc (.int .i64 0))]) [(0, (.t 76))]))⟩,
    ⟨(some 78), none, (.q (.bld (.agg [1, 1, 1, 1, 1, 1, 1, 1, 1, 1, 1, 1, 1] [(.sc (.int .i64 0)), (.sc (.int .i64 0)), (.sc (.int .i64 0)), (.sc (.int .i64 0)), (.sc (.bool false)), (.sc (.int .u64 0)), (.sc (.int .i64 0)), (.sc (.int .i64 0)), (.slice none 0), (.sc (.int .i64 0)), (.slice none 0), (.sc (.int .i64 0)), (.sc (.int .i64 0))]) [(0, (.k (.int .i64 2))), (2, (.k (.int .i64 4))), (6, (.k (.int .i64 1))), (7, (.k (.int .i64 0))), (8, (.t 77))]))⟩,
    ⟨(some 79), none, (.ac (.callf 9 [(.k (.int .i64 7)), (.t 78)]))⟩,
    ⟨(some 80), none, (.ac (.callf 8 [(.t 75), (.k (.int .i64 3)), (.t 79), (.k (.int .i64 2))]))⟩,
    ⟨(some 15), none, (.q (.mov (.t 80)))⟩] [1, 4, 5, 6, 7, 9, 11, 13, 14, 15]) (
  .seq (
  .reg [⟨(some 81), none, (.q (.mov (.t 1)))⟩,
    ⟨(some 82), none, (.ac (.callf 15 [(.t 81)]))⟩,
    ⟨(some 16), none, (.q (.mov (.t 82)))⟩] [1, 4, 5, 6, 7, 9, 11, 13, 14, 15, 16]) (
  .seq (
  .seq (
  .reg [⟨(some 83), none, (.q (.mov (.t 16)))⟩,
    ⟨(some 84), none, (.q (.len false (.t 83)))⟩,
    ⟨(some 85), none, (.q (.bin .neq 3 (.t 84) (.k (.int .i64 2))))⟩,
    ⟨(some 86), none, (.q (.mov (.t 85)))⟩,
    ⟨(some 87), (some (86, false)), (.q (.mov (.t 16)))⟩,
    ⟨(some 88), (some (86, false)), (.q (.ixs 1 (.t 87) (.k (.int .i64 1))))⟩,
    ⟨(some 89), (some (86, false)), (.rd (.ld false 1 (.t 88)))⟩,
    ⟨(some 90), (some (86, false)), (.q (.len false (.t 89)))⟩,
    ⟨(some 91), (some (86, false)), (.q (.bin .neq 3 (.t 90) (.k (.int .i64 2))))⟩,
    ⟨(some 92), none, (.q (.pick (.t 86) (.k (.bool true)) (.t 91)))⟩] [1, 4, 5, 6, 7, 9, 11, 13, 14, 15, 16, 92]) (
  .cond (.t 92) (
   .seq (
   .reg [⟨(some 0), none, (.q (.mov (.k (.bool false))))⟩] [0, 5, 9]) (
   .ret)) (
   .skip))) (
  .seq (
  .draw [(0, ⟨(some 93), none, (.q (.mov (.t 4)))⟩, 0),
    (1, ⟨(some 94), none, (.q (.bin .eql 23 (.t 93) (.k (.int .i64 1))))⟩, 0),
    (2, ⟨(some 95), none, (.q (.mov (.t 94)))⟩, 0),
    (3, ⟨(some 96), (some (95, true)), (.q (.mov (.t 6)))⟩, 0),
    (4, ⟨(some 97), (some (95, true)), (.q (.bin .eql 3 (.t 96) (.k (.int .i64 0))))⟩, 0),
    (5, ⟨(some 98), none, (.q (.pick (.t 95) (.t 97) (.k (.bool false))))⟩, 0),
    (6, ⟨(some 99), none, (.q (.mov (.t 98)))⟩, 0),
    (7, ⟨(some 100), (some (99, true)), (.q (.mov (.t 7)))⟩, 0),
    (8, ⟨(some 101), (some (99, true)), (.q (.bin .eql 3 (.t 100) (.k (.int .i64 0))))⟩, 0),
    (9, ⟨(some 102), none, (.q (.pick (.t 99) (.t 101) (.k (.bool false))))⟩, 0),
    (10, ⟨(some 103), none, (.q (.mov (.t 102)))⟩, 0),
    (11, ⟨(some 104), (some (103, true)), (.q (.fld 0 0 (.t 9)))⟩, 0),
    (12, ⟨(some 105), (some (103, true)), (.rd (.ld false 1 (.t 104)))⟩, 0),
    (13, ⟨(some 106), (some (103, true)), (.q (.bin .eql 3 (.t 105) (.k (.int .i64 3))))⟩, 0),
    (14, ⟨(some 107), none, (.q (.pick (.t 103) (.t 106) (.k (.bool false))))⟩, 0),
    (15, ⟨(some 108), none, (.q (.mov (.t 107)))⟩, 0),
    (16, ⟨(some 109), (some (108, true)), (.q (.fld 7 7 (.t 9)))⟩, 0),
    (17, ⟨(some 110), (some (108, true)), (.rd (.ld false 1 (.t 109)))⟩, 0),
    (18, ⟨(some 111), (some (108, true)), (.q (.bin .eql 3 (.t 110) (.k (.int .i64 0))))⟩, 0),
    (19, ⟨(some 112), none, (.q (.pick (.t 108) (.t 111) (.k (.bool false))))⟩, 0),
    (20, ⟨(some 113), none, (.q (.mov (.t 112)))⟩, 0),
    (21, ⟨(some 114), (some (113, true)), (.q (.fld 10 10 (.t 9)))⟩, 0),
    (22, ⟨(some 115), (some (113, true)), (.rd (.ld false 1 (.t 114)))⟩, 0),
    (23, ⟨(some 116), (some (113, true)), (.q (.len false (.t 115)))⟩, 0),
    (24, ⟨(some 117), (some (113, true)), (.q (.bin .eql 3 (.t 116) (.k (.int .i64 1))))⟩, 0),
    (25, ⟨(some 118), none, (.q (.pick (.t 113) (.t 117) (.k (.bool false))))⟩, 0),
    (26, ⟨(some 119), none, (.q (.mov (.t 118)))⟩, 0),
    (27, ⟨(some 120), (some (119, true)), (.q (.fld 9 9 (.t 9)))⟩, 0),
    (28, ⟨(some 121), (some (119, true)), (.rd (.ld false 1 (.t 120)))⟩, 0),
    (29, ⟨(some 122), (some (119, true)), (.q (.bin .eql 3 (.t 121) (.k (.int .i64 2))))⟩, 0),
    (30, ⟨(some 123), none, (.q (.pick (.t 119) (.t 122) (.k (.bool false))))⟩, 0),
    (31, ⟨(some 124), none, (.q (.mov (.t 123)))⟩, 0),
    (32, ⟨(some 125), (some (124, true)), (.q (.mov (.t 11)))⟩, 0),
    (33, ⟨(some 126), (some (124, true)), (.q (.bin .eql 3 (.t 125) (.k (.int .i64 0))))⟩, 0),
    (34, ⟨(some 127), none, (.q (.pick (.t 124) (.t 126) (.k (.bool false))))⟩, 0),
    (35, ⟨(some 128), none, (.q (.mov (.t 127)))⟩, 0),
    (36, ⟨(some 129), (some (128, true)), (.q (.mov (.t 13)))⟩, 0),
    (37, ⟨(some 130), (some (128, true)), (.q (.bin .eql 3 (.t 129) (.k (.int .i64 0))))⟩, 0),
    (38, ⟨(some 131), none, (.q (.pick (.t 128) (.t 130) (.k (.bool false))))⟩, 0),
    (39, ⟨(some 132), none, (.q (.mov (.t 131)))⟩, 0),
    (40, ⟨(some 133), (some (132, true)), (.q (.mov (.t 14)))⟩, 0),
    (41, ⟨(some 134), (some (132, true)), (.q (.bin .eql 3 (.t 133) (.k (.int .i64 0))))⟩, 0),
    (42, ⟨(some 135), none, (.q (.pick (.t 132) (.t 134) (.k (.bool false))))⟩, 0),
    (43, ⟨(some 136), none, (.q (.mov (.t 135)))⟩, 0),
    (44, ⟨(some 137), (some (136, true)), (.q (.mov (.t 15)))⟩, 0),
    (45, ⟨(some 138), (some (136, true)), (.q (.bin .eql 3 (.t 137) (.k (.int .i64 0))))⟩, 0),
    (46, ⟨(some 139), none, (.q (.pick (.t 136) (.t 138) (.k (.bool false))))⟩, 0),
    (47, ⟨(some 140), none, (.q (.mov (.t 139)))⟩, 0),
    (48, ⟨(some 141), (some (140, true)), (.q (.mov (.t 1)))⟩, 0),
    (49, ⟨(some 142), (some (140, true)), (.ac (.callf 16 [(.t 141), (.k (.int .i64 0))]))⟩, 0),
    (50, ⟨(some 143), none, (.q (.pick (.t 140) (.t 142) (.k (.bool false))))⟩, 0),
    (51, ⟨(some 144), none, (.q (.mov (.t 143)))⟩, 0),
    (52, ⟨(some 145), (some (144, true)), (.q (.mov (.t 1)))⟩, 0),
    (53, ⟨(some 146), (some (144, true)), (.ac (.callf 16 [(.t 145), (.k (.int .i64 1))]))⟩, 0),
    (54, ⟨(some 147), (some (144, true)), (.q (.un .not (.t 146)))⟩, 0),
    (55, ⟨(some 148), none, (.q (.pick (.t 144) (.t 147) (.k (.bool false))))⟩, 0),
    (56, ⟨(some 149), none, (.q (.mov (.t 148)))⟩, 0),
    (57, ⟨(some 150), (some (149, true)), (.q (.mov (.t 1)))⟩, 0),
    (58, ⟨(some 151), (some (149, true)), (.ac (.callf 10 [(.t 150), (.k (.int .i64 0))]))⟩, 0),
    (59, ⟨(some 152), (some (149, true)), (.q (.bin .eql 3 (.t 151) (.k (.int .i64 1))))⟩, 0),
    (60, ⟨(some 153), none, (.q (.pick (.t 149) (.t 152) (.k (.bool false))))⟩, 0),
    (61, ⟨(some 154), none, (.q (.mov (.t 153)))⟩, 0),
    (62, ⟨(some 155), (some (154, true)), (.q (.mov (.t 16)))⟩, 0),
    (63, ⟨(some 156), (some (154, true)), (.q (.ixs 1 (.t 155) (.k (.int .i64 1))))⟩, 0),
    (64, ⟨(some 157), (some (154, true)), (.rd (.ld false 1 (.t 156)))⟩, 0),
    (65, ⟨(some 158), (some (154, true)), (.q (.ixs 4 (.t 157) (.k (.int .i64 0))))⟩, 0),
    (66, ⟨(some 159), (some (154, true)), (.rd (.ld true 4 (.t 158)))⟩, 0),
    (67, ⟨(some 160), (some (154, true)), (.rd (.ld true 3 (.t 5)))⟩, 0),
    (68, ⟨(some 161), (some (154, true)), (.q (.bld (.agg [1, 3] [(.sc (.bool false)), (.agg [1, 1, 1] [(.sc (.int .i64 0)), (.sc (.int .i64 0)), (.sc (.int .i64 0))])]) [(0, (.k (.bool true))), (1, (.t 160))]))⟩, 0),
    (69, ⟨(some 162), (some (154, true)), (.q (.bin .eql 63 (.t 159) (.t 161)))⟩, 0),
    (70, ⟨(some 163), none, (.q (.pick (.t 154) (.t 162) (.k (.bool false))))⟩, 0),
    (71, ⟨(some 164), none, (.q (.mov (.t 163)))⟩, 0),
    (72, ⟨(some 165), (some (164, true)), (.q (.mov (.t 1)))⟩, 0),
    (73, ⟨(some 166), (some (164, true)), (.ac (.callf 17 [(.t 165)]))⟩, 0),
    (74, ⟨(some 167), (some (164, true)), (.q (.bld (.arr 1 (List.replicate 6 (.sc (.int .i64 0)))) [(0, (.k (.int .i64 0))), (1, (.k (.int .i64 2))), (2, (.k (.int .i64 1))), (3, (.k (.int .i64 0))), (4, (.k (.int .i64 0))), (5, (.k (.int .i64 0)))]))⟩, 1),
    (75, ⟨(some 168), (some (164, true)), (.q (.bin .eql 64 (.t 166) (.t 167)))⟩, 0),
    (76, ⟨(some 169), none, (.q (.pick (.t 164) (.t 168) (.k (.bool false))))⟩, 0),
    (77, ⟨(some 170), none, (.q (.mov (.t 169)))⟩, 0),
    (78, ⟨(some 171), (some (170, true)), (.q (.mov (.t 1)))⟩, 0),
    (79, ⟨(some 172), (some (170, true)), (.ac (.callf 18 [(.t 171)]))⟩, 0),
    (80, ⟨(some 173), (some (170, true)), (.q (.bld (.arr 1 (List.replicate 6 (.sc (.int .i64 0)))) [(0, (.k (.int .i64 5))), (1, (.k (.int .i64 0))), (2, (.k (.int .i64 0))), (3, (.k (.int .i64 0))), (4, (.k (.int .i64 0))), (5, (.k (.int .i64 0)))]))⟩, 1),
    (81, ⟨(some 174), (some (170, true)), (.q (.bin .eql 64 (.t 172) (.t 173)))⟩, 0),
    (82, ⟨(some 175), none, (.q (.pick (.t 170) (.t 174) (.k (.bool false))))⟩, 0),
    (83, ⟨(some 176), none, (.q (.mov (.t 175)))⟩, 0),
    (84, ⟨(some 177), (some (176, true)), (.q (.mov (.t 1)))⟩, 0),
    (85, ⟨(some 178), (some (176, true)), (.ac (.callf 14 [(.t 177)]))⟩, 0),
    (86, ⟨(some 179), (some (176, true)), (.q (.fldv 0 0 1 false (.t 178)))⟩, 0),
    (87, ⟨(some 180), (some (176, true)), (.q (.bin .eql 3 (.t 179) (.k (.int .i64 2))))⟩, 0),
    (88, ⟨(some 181), none, (.q (.pick (.t 176) (.t 180) (.k (.bool false))))⟩, 0),
    (89, ⟨(some 182), none, (.q (.mov (.t 181)))⟩, 0),
    (90, ⟨(some 183), (some (182, true)), (.q (.mov (.t 1)))⟩, 0),
    (91, ⟨(some 184), (some (182, true)), (.ac (.callf 14 [(.t 183)]))⟩, 0),
    (92, ⟨(some 185), (some (182, true)), (.q (.fldv 2 2 192 true (.t 184)))⟩, 0),
    (93, ⟨(some 186), (some (182, true)), (.q (.ixv 16 12 true (.t 185) (.k (.int .i64 0))))⟩, 0),
    (94, ⟨(some 187), (some (182, true)), (.q (.fldv 4 4 1 false (.t 186)))⟩, 0),
    (95, ⟨(some 188), (some (182, true)), (.q (.bin .eql 3 (.t 187) (.k (.int .i64 8))))⟩, 0),
    (96, ⟨(some 189), none, (.q (.pick (.t 182) (.t 188) (.k (.bool false))))⟩, 0),
    (97, ⟨(some 190), none, (.q (.mov (.t 189)))⟩, 0),
    (98, ⟨(some 191), (some (190, true)), (.q (.mov (.t 1)))⟩, 0),
    (99, ⟨(some 192), (some (190, true)), (.ac (.callf 19 [(.t 191)]))⟩, 0),
    (100, ⟨(some 193), (some (190, true)), (.q (.un .not (.t 192)))⟩, 0),
    (101, ⟨(some 194), none, (.q (.pick (.t 190) (.t 193) (.k (.bool false))))⟩, 0),
    (102, ⟨(some 195), none, (.q (.mov (.t 194)))⟩, 0),
    (103, ⟨(some 196), (some (195, true)), (.q (.mov (.t 1)))⟩, 0),
    (104, ⟨(some 197), (some (195, true)), (.ac (.callf 10 [(.t 196), (.k (.int .i64 9))]))⟩, 0),
    (105, ⟨(some 198), (some (195, true)), (.q (.bin .eql 3 (.t 197) (.k (.int .i64 0))))⟩, 0),
    (106, ⟨(some 199), none, (.q (.pick (.t 195) (.t 198) (.k (.bool false))))⟩, 0),
    (107, ⟨(some 200), none, (.q (.mov (.t 199)))⟩, 0),
    (108, ⟨(some 201), (some (200, true)), (.q (.mov (.t 1)))⟩, 0),
    (109, ⟨(some 202), (some (200, true)), (.ac (.callf 16 [(.t 201), (.k (.int .i64 (-1)))]))⟩, 0),
    (110, ⟨(some 203), (some (200, true)), (.q (.un .not (.t 202)))⟩, 0),
    (111, ⟨(some 204), none, (.q (.pick (.t 200) (.t 203) (.k (.bool false))))⟩, 0),
    (112, ⟨(some 0), none, (.q (.mov (.t 204)))⟩, 0)] [0, 5, 9]) (
  .ret))))))))))))))))))),
  [.tmp 0], [5, 9]⟩
noncomputable def g3 : HFn Tryz.prog := ⟨r3, fun K => wslow Tryz.prog K r3.code, fun _ _ hK => wslow_fits hK _ (by decide +kernel)⟩
theorem c3 : chkF Tryz.prog Tryz.f3 r3 = true := by decide +kernel

/-- doubletake/server.New -/
def r5 : RFn := ⟨1,
  .seq (
  .reg [⟨(some 1), none, (.al (.box (.t 0)))⟩,
    ⟨(some 2), none, (.q (.mov .nilp))⟩,
    ⟨(some 3), none, (.q (.mov (.k (.int .i64 0))))⟩] [1, 7]) (
  .seq (
  .reg [⟨(some 9), none, (.rd (.ld true 10 (.t 1)))⟩,
    ⟨(some 10), none, (.ac (.callf 33 [(.t 9)]))⟩,
    ⟨(some 8), none, (.q (.mov (.t 10)))⟩,
    ⟨(some 11), none, (.q (.ext 0 (.t 8)))⟩,
    ⟨(some 12), none, (.q (.ext 1 (.t 8)))⟩,
    ⟨(some 4), none, (.q (.mov (.t 11)))⟩,
    ⟨(some 5), none, (.q (.mov (.t 12)))⟩] [1, 4, 5, 7]) (
  .seq (
  .seq (
  .reg [⟨(some 13), none, (.q (.mov (.t 5)))⟩,
    ⟨(some 14), none, (.q (.bin .neq 23 (.t 13) (.k (.int .i64 0))))⟩] [1, 4, 5, 7, 14]) (
  .cond (.t 14) (
   .seq (
   .reg [⟨(some 15), none, (.q (.mov (.t 5)))⟩,
     ⟨(some 2), none, (.q (.mov .nilp))⟩,
     ⟨(some 3), none, (.q (.mov (.t 15)))⟩] [1, 2, 3, 7]) (
   .ret)) (
   .skip))) (
  .seq (
  .reg [⟨(some 17), none, (.rd (.ld true 10 (.t 1)))⟩,
    ⟨(some 18), none, (.ac (.callf 34 [(.t 17)]))⟩,
    ⟨(some 16), none, (.q (.mov (.t 18)))⟩,
    ⟨(some 19), none, (.q (.ext 0 (.t 16)))⟩,
    ⟨(some 20), none, (.q (.ext 1 (.t 16)))⟩,
    ⟨(some 6), none, (.q (.mov (.t 19)))⟩,
    ⟨(some 5), none, (.q (.mov (.t 20)))⟩] [1, 4, 5, 6, 7]) (
  .seq (
  .seq (
  .reg [⟨(some 21), none, (.q (.mov (.t 5)))⟩,
    ⟨(some 22), none, (.q (.bin .neq 23 (.t 21) (.k (.int .i64 0))))⟩] [1, 4, 5, 6, 7, 22]) (
  .cond (.t 22) (
   .seq (
   .reg [⟨(some 23), none, (.q (.mov (.t 5)))⟩,
     ⟨(some 2), none, (.q (.mov .nilp))⟩,
     ⟨(some 3), none, (.q (.mov (.t 23)))⟩] [1, 2, 3, 7]) (
   .ret)) (
   .skip))) (
  .seq (
  .reg [⟨(some 24), none, (.rd (.ld true 10 (.t 1)))⟩,
    ⟨(some 25), none, (.ac (.callf 35 [(.t 24)]))⟩,
    ⟨(some 7), none, (.al (.alloc (.agg [1, 1, 192, 8] [(.sc (.int .i64 0)), (.sc (.int .u64 0)), (.arr 12 (List.replicate 16 (.agg [1, 1, 1, 1, 1, 1, 1, 4, 1] [(.sc (.int .i64 0)), (.sc (.int .i64 0)), (.sc (.int .i64 0)), (.sc (.int .i64 0)), (.sc (.int .i64 0)), (.sc (.int .i64 0)), (.sc (.int .i64 0)), (.arr 1 (List.replicate 4 (.sc (.int .i64 0)))), (.sc (.int .i64 0))]))), (.arr 1 (List.replicate 8 (.sc (.int .i64 0))))])))⟩,
    ⟨none, none, (.ac (.st 202 (.t 7) (.t 25)))⟩] [1, 4, 6, 7]) (
  .seq (
  .draw [(4, ⟨(some 30), none, (.rd (.ld true 10 (.t 1)))⟩, 0),
    (5, ⟨(some 31), none, (.rd (.ld true 202 (.t 7)))⟩, 0),
    (6, ⟨(some 32), none, (.ac (.callf 36 [(.t 30), (.t 31)]))⟩, 0),
    (0, ⟨(some 26), none, (.rd (.ld true 10 (.t 1)))⟩, 1),
    (1, ⟨(some 27), none, (.q (.mov (.t 4)))⟩, 1),
    (2, ⟨(some 28), none, (.q (.mov (.t 6)))⟩, 1),
    (3, ⟨(some 29), none, (.rd (.ld true 202 (.t 7)))⟩, 1),
    (7, ⟨(some 33), none, (.al (.bldS 1 1 (.sc (.int .i64 0)) [(0, (.t 32))]))⟩, 0),
    (8, ⟨(some 34), none, (.q (.fld 0 0 (.t 1)))⟩, 1),
    (9, ⟨(some 35), none, (.rd (.ld false 1 (.t 34)))⟩, 1),
    (10, ⟨(some 36), none, (.al (.mkS 3 16 (.agg [1, 1, 1] [(.sc (.bool false)), (.sc (.bool false)), (.sc (.int .i64 0))]) (.t 35) (.t 35)))⟩, 1),
    (11, ⟨(some 37), none, (.q (.bld (.agg [10, 1, 1, 202, 1, 1, 6] [(.agg [1, 1, 1, 1, 1, 1, 1, 1, 1, 1] [(.sc (.int .i64 0)), (.sc (.int .i64 0)), (.sc (.int .i64 0)), (.sc (.int .i64 0)), (.sc (.int .i64 0)), (.sc (.int .i64 0)), (.sc (.float .f64 0)), (.sc (.float .f64 0)), (.slice none 0), (.slice none 0)]), (.ptr none), (.ptr none), (.agg [1, 1, 192, 8] [(.sc (.int .i64 0)), (.sc (.int .u64 0)), (.arr 12 (List.replicate 16 (.agg [1, 1, 1, 1, 1, 1, 1, 4, 1] [(.sc (.int .i64 0)), (.sc (.int .i64 0)), (.sc (.int .i64 0)), (.sc (.int .i64 0)), (.sc (.int .i64 0)), (.sc (.int .i64 0)), (.sc (.int .i64 0)), (.arr 1 (List.replicate 4 (.sc (.int .i64 0)))), (.sc (.int .i64 0))]))), (.arr 1 (List.replicate 8 (.sc (.int .i64 0))))]), (.slice none 0), (.slice none 0), (.arr 1 (List.replicate 6 (.sc (.int .i64 0))))]) [(0, (.t 26)), (1, (.t 27)), (2, (.t 28)), (3, (.t 29)), (4, (.t 33)), (5, (.t 36))]))⟩, 0),
    (12, ⟨(some 38), none, (.al (.box (.t 37)))⟩, 0),
    (13, ⟨(some 2), none, (.q (.mov (.t 38)))⟩, 0),
    (14, ⟨(some 3), none, (.q (.mov (.k (.int .i64 0))))⟩, 0)] [1, 2, 3, 7]) (
  .ret))))))),
  [.tmp 2, .tmp 3], [1, 7]⟩
noncomputable def g5 : HFn Tryz.prog := ⟨r5, fun K => wslow Tryz.prog K r5.code, fun _ _ hK => wslow_fits hK _ (by decide +kernel)⟩
theorem c5 : chkF Tryz.prog Tryz.f5 r5 = true := by decide +kernel

/-- doubletake/doubletakelaw19.two -/
def r6 : RFn := ⟨0,
  .seq (
  .reg [⟨(some 0), none, (.al (.alloc (.agg [1, 1, 1, 1, 1, 1, 1, 1, 1, 1] [(.sc (.int .i64 0)), (.sc (.int .i64 0)), (.sc (.int .i64 0)), (.sc (.int .i64 0)), (.sc (.int .i64 0)), (.sc (.int .i64 0)), (.sc (.float .f64 0)), (.sc (.float .f64 0)), (.slice none 0), (.slice none 0)])))⟩] [0]) (
  .seq (
  .reg [⟨(some 1), none, (.al (.bldS 1 2 (.sc (.int .i64 0)) [(0, (.k (.int .i64 7))), (1, (.k (.int .i64 8)))]))⟩,
    ⟨(some 2), none, (.q (.bld (.agg [1, 1, 1, 1, 1, 1, 1, 1, 1, 1] [(.sc (.int .i64 0)), (.sc (.int .i64 0)), (.sc (.int .i64 0)), (.sc (.int .i64 0)), (.sc (.int .i64 0)), (.sc (.int .i64 0)), (.sc (.float .f64 0)), (.sc (.float .f64 0)), (.slice none 0), (.slice none 0)]) [(0, (.k (.int .i64 2))), (1, (.k (.int .i64 1))), (3, (.k (.int .i64 1))), (4, (.k (.int .i64 30))), (6, (.k (.float .f64 4611686018427387904))), (7, (.k (.float .f64 4621256167635550208))), (9, (.t 1))]))⟩,
    ⟨none, none, (.ac (.st 10 (.t 0) (.t 2)))⟩] [0]) (
  .ret)),
  [.cell 0 true 10], [0]⟩
noncomputable def g6 : HFn Tryz.prog := ⟨r6, fun K => wslow Tryz.prog K r6.code, fun _ _ hK => wslow_fits hK _ (by decide +kernel)⟩
theorem c6 : chkF Tryz.prog Tryz.f6 r6 = true := by decide +kernel

/-- doubletake/doubletakelaw19.known -/
def r7 : RFn := ⟨0,
  .seq (
  .reg [⟨(some 0), none, (.q (.mov (.k (.bool false))))⟩] [5]) (
  .seq (
  .reg [⟨(some 8), none, (.ac (.callf 6 []))⟩,
    ⟨(some 9), none, (.ac (.callf 5 [(.t 8)]))⟩,
    ⟨(some 7), none, (.q (.mov (.t 9)))⟩,
    ⟨(some 10), none, (.q (.ext 0 (.t 7)))⟩,
    ⟨(some 11), none, (.q (.ext 1 (.t 7)))⟩,
    ⟨(some 1), none, (.q (.mov (.t 10)))⟩,
    ⟨(some 2), none, (.q (.mov (.t 11)))⟩] [1, 2, 5]) (
  .seq (
  .seq (
  .reg [⟨(some 12), none, (.q (.mov (.t 2)))⟩,
    ⟨(some 13), none, (.q (.bin .neq 23 (.t 12) (.k (.int .i64 0))))⟩,
    ⟨(some 14), none, (.q (.mov (.t 13)))⟩,
    ⟨(some 15), (some (14, false)), (.q (.mov (.t 1)))⟩,
    ⟨(some 16), (some (14, false)), (.q (.nil 0 false (.t 15)))⟩,
    ⟨(some 17), none, (.q (.pick (.t 14) (.k (.bool true)) (.t 16)))⟩,
    ⟨(some 18), none, (.q (.mov (.t 17)))⟩,
    ⟨(some 19), (some (18, false)), (.q (.mov (.t 1)))⟩,
    ⟨(some 20), (some (18, false)), (.ac (.callf 11 [(.t 19), (.k (.int .i64 0))]))⟩,
    ⟨(some 21), (some (18, false)), (.q (.len false (.t 20)))⟩,
    ⟨(some 22), (some (18, false)), (.q (.bin .neq 3 (.t 21) (.k (.int .i64 0))))⟩,
    ⟨(some 23), none, (.q (.pick (.t 18) (.k (.bool true)) (.t 22)))⟩] [1, 5, 23]) (
  .cond (.t 23) (
   .seq (
   .reg [⟨(some 0), none, (.q (.mov (.k (.bool false))))⟩] [0, 5]) (
   .ret)) (
   .skip))) (
  .seq (
  .reg [⟨(some 24), none, (.q (.mov (.t 1)))⟩,
    ⟨(some 25), none, (.q (.bld (.agg [1, 1, 1, 1, 1, 1, 1, 1, 1, 1, 1, 1, 1] [(.sc (.int .i64 0)), (.sc (.int .i64 0)), (.sc (.int .i64 0)), (.sc (.int .i64 0)), (.sc (.bool false)), (.sc (.int .u64 0)), (.sc (.int .i64 0)), (.sc (.int .i64 0)), (.slice none 0), (.sc (.int .i64 0)), (.slice none 0), (.sc (.int .i64 0)), (.sc (.int .i64 0))]) [(0, (.k (.int .i64 1))), (1, (.k (.int .i64 1)))]))⟩,
    ⟨(some 26), none, (.ac (.callf 9 [(.k (.int .i64 8)), (.t 25)]))⟩,
    ⟨(some 27), none, (.ac (.callf 8 [(.t 24), (.k (.int .i64 5)), (.t 26), (.k (.int .i64 0))]))⟩,
    ⟨(some 3), none, (.q (.mov (.t 27)))⟩] [1, 3, 5]) (
  .seq (
  .reg [⟨(some 28), none, (.q (.mov (.t 1)))⟩,
    ⟨(some 29), none, (.ac (.callf 11 [(.t 28), (.k (.int .i64 1))]))⟩,
    ⟨(some 4), none, (.q (.mov (.t 29)))⟩] [1, 3, 4, 5]) (
  .seq (
  .seq (
  .reg [⟨(some 30), none, (.q (.mov (.t 3)))⟩,
    ⟨(some 31), none, (.q (.bin .neq 3 (.t 30) (.k (.int .i64 0))))⟩,
    ⟨(some 32), none, (.q (.mov (.t 31)))⟩,
    ⟨(some 33), (some (32, false)), (.q (.mov (.t 4)))⟩,
    ⟨(some 34), (some (32, false)), (.q (.len false (.t 33)))⟩,
    ⟨(some 35), (some (32, false)), (.q (.bin .neq 3 (.t 34) (.k (.int .i64 1))))⟩,
    ⟨(some 36), none, (.q (.pick (.t 32) (.k (.bool true)) (.t 35)))⟩,
    ⟨(some 37), none, (.q (.mov (.t 36)))⟩,
    ⟨(some 38), (some (37, false)), (.q (.mov (.t 4)))⟩,
    ⟨(some 39), (some (37, false)), (.q (.ixs 2 (.t 38) (.k (.int .i64 0))))⟩,
    ⟨(some 40), (some (37, false)), (.q (.fld 0 0 (.t 39)))⟩,
    ⟨(some 41), (some (37, false)), (.rd (.ld false 1 (.t 40)))⟩,
    ⟨(some 42), (some (37, false)), (.q (.bin .neq 3 (.t 41) (.k (.int .i64 5))))⟩,
    ⟨(some 43), none, (.q (.pick (.t 37) (.k (.bool true)) (.t 42)))⟩] [1, 4, 5, 43]) (
  .cond (.t 43) (
   .seq (
   .reg [⟨(some 0), none, (.q (.mov (.k (.bool false))))⟩] [0, 5]) (
   .ret)) (
   .skip))) (
  .seq (
  .reg [⟨(some 45), none, (.q (.mov (.t 4)))⟩,
    ⟨(some 46), none, (.q (.ixs 2 (.t 45) (.k (.int .i64 0))))⟩,
    ⟨(some 47), none, (.q (.fld 1 1 (.t 46)))⟩,
    ⟨(some 48), none, (.rd (.ld false 1 (.t 47)))⟩,
    ⟨(some 49), none, (.ac (.callf 12 [(.k (.int .i64 8)), (.t 48)]))⟩,
    ⟨(some 44), none, (.q (.mov (.t 49)))⟩,
    ⟨(some 50), none, (.q (.ext 0 (.t 44)))⟩,
    ⟨(some 51), none, (.q (.ext 1 (.t 44)))⟩,
    ⟨(some 5), none, (.al (.alloc (.agg [1, 1, 1, 1, 1, 1, 1, 1, 1, 1, 1, 1, 1] [(.sc (.int .i64 0)), (.sc (.int .i64 0)), (.sc (.int .i64 0)), (.sc (.int .i64 0)), (.sc (.bool false)), (.sc (.int .u64 0)), (.sc (.int .i64 0)), (.sc (.int .i64 0)), (.slice none 0), (.sc (.int .i64 0)), (.slice none 0), (.sc (.int .i64 0)), (.sc (.int .i64 0))])))⟩,
    ⟨none, none, (.ac (.st 13 (.t 5) (.t 50)))⟩,
    ⟨(some 6), none, (.q (.mov (.t 51)))⟩] [1, 5, 6]) (
  .seq (
  .reg [⟨(some 52), none, (.q (.mov (.t 6)))⟩,
    ⟨(some 53), none, (.q (.bin .eql 23 (.t 52) (.k (.int .i64 0))))⟩,
    ⟨(some 54), none, (.q (.mov (.t 53)))⟩,
    ⟨(some 55), (some (54, true)), (.q (.fld 0 0 (.t 5)))⟩,
    ⟨(some 56), (some (54, true)), (.rd (.ld false 1 (.t 55)))⟩,
    ⟨(some 57), (some (54, true)), (.q (.bin .eql 3 (.t 56) (.k (.int .i64 6))))⟩,
    ⟨(some 58), none, (.q (.pick (.t 54) (.t 57) (.k (.bool false))))⟩,
    ⟨(some 59), none, (.q (.mov (.t 58)))⟩,
    ⟨(some 60), (some (59, true)), (.q (.mov (.t 1)))⟩,
    ⟨(some 61), (some (59, true)), (.ac (.callf 15 [(.t 60)]))⟩,
    ⟨(some 62), (some (59, true)), (.q (.len false (.t 61)))⟩,
    ⟨(some 63), (some (59, true)), (.q (.bin .eql 3 (.t 62) (.k (.int .i64 1))))⟩,
    ⟨(some 64), none, (.q (.pick (.t 59) (.t 63) (.k (.bool false))))⟩,
    ⟨(some 0), none, (.q (.mov (.t 64)))⟩] [0, 5]) (
  .ret)))))))),
  [.tmp 0], [5]⟩
noncomputable def g7 : HFn Tryz.prog := ⟨r7, fun K => wslow Tryz.prog K r7.code, fun _ _ hK => wslow_fits hK _ (by decide +kernel)⟩
theorem c7 : chkF Tryz.prog Tryz.f7 r7 = true := by decide +kernel

/-- (*doubletake/server.Server).Handle -/
def r8 : RFn := ⟨4,
  .seq (
  .reg [⟨(some 8), none, (.q (.mov (.k (.int .i64 0))))⟩] [0, 1, 2, 3]) (
  .seq (
  .draw [(6, ⟨(some 18), none, (.q (.mov (.t 3)))⟩, 0),
    (7, ⟨(some 19), none, (.ac (.callf 38 [(.t 18)]))⟩, 0),
    (0, ⟨(some 12), none, (.q (.mov (.t 0)))⟩, 1),
    (1, ⟨(some 13), none, (.q (.nchk (.t 12)))⟩, 1),
    (2, ⟨(some 14), none, (.q (.fld 1 10 (.t 13)))⟩, 1),
    (3, ⟨(some 15), none, (.rd (.ld false 1 (.t 14)))⟩, 1),
    (4, ⟨(some 16), none, (.q (.mov (.t 1)))⟩, 1),
    (5, ⟨(some 17), none, (.q (.mov (.t 2)))⟩, 1),
    (8, ⟨(some 20), none, (.ac (.callf 37 [(.t 15), (.t 16), (.t 17), (.t 19)]))⟩, 0),
    (9, ⟨(some 11), none, (.q (.mov (.t 20)))⟩, 0),
    (10, ⟨(some 21), none, (.q (.ext 0 (.t 11)))⟩, 0),
    (12, ⟨(some 9), none, (.al (.alloc (.agg [1, 1, 1, 1, 1, 1, 1, 1, 1, 1, 1, 1, 1] [(.sc (.int .i64 0)), (.sc (.int .i64 0)), (.sc (.int .i64 0)), (.sc (.int .i64 0)), (.sc (.bool false)), (.sc (.int .u64 0)), (.sc (.int .i64 0)), (.sc (.int .i64 0)), (.slice none 0), (.sc (.int .i64 0)), (.slice none 0), (.sc (.int .i64 0)), (.sc (.int .i64 0))])))⟩, 2),
    (13, ⟨none, none, (.ac (.st 13 (.t 9) (.t 21)))⟩, 0),
    (11, ⟨(some 22), none, (.q (.ext 1 (.t 11)))⟩, 1),
    (14, ⟨(some 10), none, (.q (.mov (.t 22)))⟩, 0)] [0, 9, 10]) (
  .seq (
  .seq (
  .reg [⟨(some 23), none, (.q (.mov (.t 10)))⟩,
    ⟨(some 24), none, (.q (.bin .neq 3 (.t 23) (.k (.int .i64 0))))⟩] [0, 9, 10, 24]) (
  .cond (.t 24) (
   .seq (
   .reg [⟨(some 25), none, (.q (.mov (.t 10)))⟩,
     ⟨(some 8), none, (.q (.mov (.t 25)))⟩] [8, 9]) (
   .ret)) (
   .skip))) (
  .seq (
  .seq (
  .reg [⟨(some 26), none, (.q (.fld 0 0 (.t 9)))⟩,
    ⟨(some 27), none, (.rd (.ld false 1 (.t 26)))⟩] [0, 9, 10, 27]) (
  .block 0 (
   .seq (
   .reg [⟨(some 29), none, (.q (.bin .eql 3 (.t 27) (.k (.int .i64 2))))⟩,
     ⟨(some 28), none, (.q (.mov (.t 29)))⟩] [0, 9, 10, 27, 28]) (
   .cond (.t 28) (
    .reg [⟨(some 30), none, (.q (.mov (.t 0)))⟩,
      ⟨(some 31), none, (.rd (.ld true 13 (.t 9)))⟩,
      ⟨(some 32), none, (.ac (.callf 39 [(.t 30), (.t 31)]))⟩] [9, 10]) (
    .seq (
    .reg [⟨(some 34), none, (.q (.bin .eql 3 (.t 27) (.k (.int .i64 4))))⟩,
      ⟨(some 33), none, (.q (.mov (.t 34)))⟩] [0, 9, 10, 33]) (
    .cond (.t 33) (
     .reg [⟨(some 35), none, (.q (.mov (.t 0)))⟩,
       ⟨(some 36), none, (.rd (.ld true 13 (.t 9)))⟩,
       ⟨(some 37), none, (.ac (.callf 40 [(.t 35), (.t 36)]))⟩] [9, 10]) (
     .skip))))))) (
  .seq (
  .reg [⟨(some 38), none, (.q (.mov (.t 10)))⟩,
    ⟨(some 8), none, (.q (.mov (.t 38)))⟩] [8, 9]) (
  .ret))))),
  [.tmp 8], [9]⟩
noncomputable def g8 : HFn Tryz.prog := ⟨r8, fun K => wslow Tryz.prog K r8.code, fun _ _ hK => wslow_fits hK _ (by decide +kernel)⟩
theorem c8 : chkF Tryz.prog Tryz.f8 r8 = true := by decide +kernel

/-- doubletake/doubletakelaw19.lay -/
def r9 : RFn := ⟨2,
  .seq (
  .reg [⟨(some 3), none, (.al (.box (.t 1)))⟩,
    ⟨(some 4), none, (.q (.mov .nils))⟩] [0, 3]) (
  .seq (
  .reg [⟨(some 8), none, (.q (.mov (.t 0)))⟩,
    ⟨(some 9), none, (.rd (.ld true 13 (.t 3)))⟩,
    ⟨(some 10), none, (.ac (.callf 28 [(.t 8), (.t 9)]))⟩,
    ⟨(some 7), none, (.q (.mov (.t 10)))⟩,
    ⟨(some 11), none, (.q (.ext 0 (.t 7)))⟩,
    ⟨(some 12), none, (.q (.ext 1 (.t 7)))⟩,
    ⟨(some 5), none, (.q (.mov (.t 11)))⟩,
    ⟨(some 6), none, (.q (.mov (.t 12)))⟩] [3, 5]) (
  .seq (
  .reg [⟨(some 13), none, (.q (.mov (.t 5)))⟩,
    ⟨(some 4), none, (.q (.mov (.t 13)))⟩] [3, 4]) (
  .ret))),
  [.tmp 4], [3]⟩
noncomputable def g9 : HFn Tryz.prog := ⟨r9, fun K => wslow Tryz.prog K r9.code, fun _ _ hK => wslow_fits hK _ (by decide +kernel)⟩
theorem c9 : chkF Tryz.prog Tryz.f9 r9 = true := by decide +kernel

/-- (*doubletake/server.Server).Got -/
def r10 : RFn := ⟨2,
  .seq (
  .reg [⟨(some 4), none, (.q (.mov (.k (.int .i64 0))))⟩] [0, 1]) (
  .seq (
  .seq (
  .reg [⟨(some 5), none, (.q (.mov (.t 1)))⟩,
    ⟨(some 6), none, (.q (.bin .lss 3 (.t 5) (.k (.int .i64 0))))⟩,
    ⟨(some 7), none, (.q (.mov (.t 6)))⟩,
    ⟨(some 8), (some (7, false)), (.q (.mov (.t 1)))⟩,
    ⟨(some 9), (some (7, false)), (.q (.mov (.t 0)))⟩,
    ⟨(some 10), (some (7, false)), (.q (.nchk (.t 9)))⟩,
    ⟨(some 11), (some (7, false)), (.q (.fld 5 215 (.t 10)))⟩,
    ⟨(some 12), (some (7, false)), (.rd (.ld false 1 (.t 11)))⟩,
    ⟨(some 13), (some (7, false)), (.q (.len false (.t 12)))⟩,
    ⟨(some 14), (some (7, false)), (.q (.bin .geq 3 (.t 8) (.t 13)))⟩,
    ⟨(some 15), none, (.q (.pick (.t 7) (.k (.bool true)) (.t 14)))⟩] [0, 1, 15]) (
  .cond (.t 15) (
   .seq (
   .reg [⟨(some 4), none, (.q (.mov (.k (.int .i64 0))))⟩] [4]) (
   .ret)) (
   .skip))) (
  .seq (
  .reg [⟨(some 16), none, (.q (.mov (.t 0)))⟩,
    ⟨(some 17), none, (.q (.nchk (.t 16)))⟩,
    ⟨(some 18), none, (.q (.fld 5 215 (.t 17)))⟩,
    ⟨(some 19), none, (.rd (.ld false 1 (.t 18)))⟩,
    ⟨(some 20), none, (.q (.mov (.t 1)))⟩,
    ⟨(some 21), none, (.q (.ixs 3 (.t 19) (.t 20)))⟩,
    ⟨(some 22), none, (.q (.fld 2 2 (.t 21)))⟩,
    ⟨(some 23), none, (.rd (.ld false 1 (.t 22)))⟩,
    ⟨(some 4), none, (.q (.mov (.t 23)))⟩] [4]) (
  .ret))),
  [.tmp 4], []⟩
noncomputable def g10 : HFn Tryz.prog := ⟨r10, fun K => wslow Tryz.prog K r10.code, fun _ _ hK => wslow_fits hK _ (by decide +kernel)⟩
theorem c10 : chkF Tryz.prog Tryz.f10 r10 = true := by decide +kernel

/-- (*doubletake/server.Server).Tick -/
def r11 : RFn := ⟨2,
  .seq (
  .reg [⟨(some 4), none, (.q (.mov .nils))⟩] [0, 1]) (
  .seq (
  .reg [⟨(some 9), none, (.q (.mov (.t 1)))⟩,
    ⟨(some 10), none, (.ac (.callf 38 [(.t 9)]))⟩,
    ⟨(some 1), none, (.q (.mov (.t 10)))⟩] [0, 1]) (
  .seq (
  .reg [⟨(some 11), none, (.q (.mov (.t 0)))⟩,
    ⟨(some 12), none, (.q (.mov (.t 1)))⟩,
    ⟨(some 13), none, (.ac (.callf 41 [(.t 11), (.t 12)]))⟩] [0, 1]) (
  .seq (
  .reg [⟨(some 5), none, (.q (.mov .nils))⟩] [0, 1, 5]) (
  .seq (
  .seq (
  .reg [⟨(some 14), none, (.q (.mov (.t 0)))⟩,
    ⟨(some 15), none, (.q (.nchk (.t 14)))⟩,
    ⟨(some 16), none, (.q (.fld 5 215 (.t 15)))⟩,
    ⟨(some 17), none, (.rd (.ld false 1 (.t 16)))⟩,
    ⟨(some 18), none, (.q (.len false (.t 17)))⟩,
    ⟨(some 19), none, (.q (.mov (.k (.int .i64 0))))⟩] [0, 1, 5, 18, 19]) (
  .block 0 (
   .loop [0, 1, 5, 18, 19] (
    .seq (
    .reg [⟨(some 20), none, (.q (.bin .lss 3 (.t 19) (.t 18)))⟩] [0, 1, 5, 18, 19, 20]) (
    .seq (
    .cond (.t 20) (
     .skip) (
     .exit 0)) (
    .seq (
    .block 1 (
     .seq (
     .reg [⟨(some 21), none, (.q (.mov (.t 19)))⟩,
       ⟨(some 6), none, (.q (.mov (.t 21)))⟩] [0, 1, 5, 6, 18, 19]) (
     .seq (
     .seq (
     .reg [⟨(some 22), none, (.q (.mov (.t 0)))⟩,
       ⟨(some 23), none, (.q (.nchk (.t 22)))⟩,
       ⟨(some 24), none, (.q (.fld 1 10 (.t 23)))⟩,
       ⟨(some 25), none, (.rd (.ld false 1 (.t 24)))⟩,
       ⟨(some 26), none, (.q (.mov (.t 6)))⟩,
       ⟨(some 27), none, (.ac (.callf 42 [(.t 25), (.t 26)]))⟩,
       ⟨(some 28), none, (.q (.un .not (.t 27)))⟩] [0, 1, 5, 6, 18, 19, 28]) (
     .cond (.t 28) (
      .exit 1) (
      .skip))) (
     .seq (
     .draw [(5, ⟨(some 35), none, (.q (.mov (.t 0)))⟩, 0),
       (6, ⟨(some 36), none, (.q (.mov (.t 6)))⟩, 0),
       (7, ⟨(some 37), none, (.ac (.callf 44 [(.t 35), (.t 36)]))⟩, 0),
       (0, ⟨(some 30), none, (.q (.mov (.t 0)))⟩, 1),
       (1, ⟨(some 31), none, (.q (.nchk (.t 30)))⟩, 1),
       (2, ⟨(some 32), none, (.q (.fld 1 10 (.t 31)))⟩, 1),
       (3, ⟨(some 33), none, (.rd (.ld false 1 (.t 32)))⟩, 1),
       (4, ⟨(some 34), none, (.q (.mov (.t 6)))⟩, 1),
       (8, ⟨(some 38), none, (.q (.mov (.t 1)))⟩, 1),
       (9, ⟨(some 39), none, (.ac (.callf 43 [(.t 33), (.t 34), (.t 37), (.t 38)]))⟩, 0),
       (10, ⟨(some 29), none, (.q (.mov (.t 39)))⟩, 0),
       (11, ⟨(some 40), none, (.q (.ext 0 (.t 29)))⟩, 0),
       (12, ⟨(some 41), none, (.q (.ext 1 (.t 29)))⟩, 0),
       (13, ⟨(some 7), none, (.q (.mov (.t 40)))⟩, 0),
       (14, ⟨(some 8), none, (.q (.mov (.t 41)))⟩, 0)] [0, 1, 5, 6, 7, 8, 18, 19]) (
     .seq (
     .reg [⟨(some 42), none, (.q (.mov (.t 8)))⟩] [0, 1, 5, 6, 7, 18, 19, 42]) (
     .cond (.t 42) (
      .reg [⟨(some 43), none, (.q (.mov (.t 5)))⟩,
        ⟨(some 44), none, (.q (.mov (.t 0)))⟩,
        ⟨(some 45), none, (.q (.nchk (.t 44)))⟩,
        ⟨(some 46), none, (.q (.fld 1 10 (.t 45)))⟩,
        ⟨(some 47), none, (.rd (.ld false 1 (.t 46)))⟩,
        ⟨(some 48), none, (.q (.mov (.t 6)))⟩,
        ⟨(some 49), none, (.ac (.callf 45 [(.t 47), (.t 48)]))⟩,
        ⟨(some 50), none, (.q (.mov (.t 7)))⟩,
        ⟨(some 51), none, (.q (.bld (.agg [1, 1] [(.sc (.int .i64 0)), (.slice none 0)]) [(0, (.t 49)), (1, (.t 50))]))⟩,
        ⟨(some 52), none, (.al (.bldS 2 1 (.agg [1, 1] [(.sc (.int .i64 0)), (.slice none 0)]) [(0, (.t 51))]))⟩,
        ⟨(some 53), none, (.ac (.app true 2 32 (.t 43) (.t 52)))⟩,
        ⟨(some 5), none, (.q (.mov (.t 53)))⟩] [0, 1, 5, 18, 19]) (
      .skip))))))) (
    .reg [⟨(some 54), none, (.q (.bin .add 3 (.t 19) (.k (.int .i64 1))))⟩,
      ⟨(some 19), none, (.q (.mov (.t 54)))⟩] [0, 1, 5, 18, 19]))))))) (
  .seq (
  .reg [⟨(some 55), none, (.q (.mov (.t 5)))⟩,
    ⟨(some 4), none, (.q (.mov (.t 55)))⟩] [4]) (
  .ret)))))),
  [.tmp 4], []⟩
noncomputable def g11 : HFn Tryz.prog := ⟨r11, fun K => wslow Tryz.prog K r11.code, fun _ _ hK => wslow_fits hK _ (by decide +kernel)⟩
theorem c11 : chkF Tryz.prog Tryz.f11 r11 = true := by decide +kernel

/-- doubletake/doubletakeref15.Open -/
def r12 : RFn := ⟨2,
  .seq (
  .reg [⟨(some 4), none, (.al (.alloc (.agg [1, 1, 1, 1, 1, 1, 1, 1, 1, 1, 1, 1, 1] [(.sc (.int .i64 0)), (.sc (.int .i64 0)), (.sc (.int .i64 0)), (.sc (.int .i64 0)), (.sc (.bool false)), (.sc (.int .u64 0)), (.sc (.int .i64 0)), (.sc (.int .i64 0)), (.slice none 0), (.sc (.int .i64 0)), (.slice none 0), (.sc (.int .i64 0)), (.sc (.int .i64 0))])))⟩,
    ⟨(some 5), none, (.q (.mov (.k (.int .i64 0))))⟩] [0, 1, 4, 9, 16, 33]) (
  .seq (
  .seq (
  .reg [⟨(some 18), none, (.q (.mov (.t 1)))⟩,
    ⟨(some 19), none, (.q (.len false (.t 18)))⟩,
    ⟨(some 20), none, (.q (.bin .gtr 3 (.t 19) (.k (.int .i64 400))))⟩] [0, 1, 4, 9, 16, 20, 33]) (
  .cond (.t 20) (
   .seq (
   .reg [⟨(some 21), none, (.q (.bld (.agg [1, 1, 1, 1, 1, 1, 1, 1, 1, 1, 1, 1, 1] [(.sc (.int .i64 0)), (.sc (.int .i64 0)), (.sc (.int .i64 0)), (.sc (.int .i64 0)), (.sc (.bool false)), (.sc (.int .u64 0)), (.sc (.int .i64 0)), (.sc (.int .i64 0)), (.slice none 0), (.sc (.int .i64 0)), (.slice none 0), (.sc (.int .i64 0)), (.sc (.int .i64 0))]) []))⟩,
     ⟨none, none, (.ac (.st 13 (.t 4) (.t 21)))⟩,
     ⟨(some 5), none, (.q (.mov (.k (.int .i64 7))))⟩] [4, 5, 9, 16, 33]) (
   .ret)) (
   .skip))) (
  .seq (
  .reg [⟨(some 23), none, (.q (.mov (.t 0)))⟩,
    ⟨(some 24), none, (.q (.mov (.t 1)))⟩,
    ⟨(some 25), none, (.ac (.callf 46 [(.t 23), (.t 24)]))⟩,
    ⟨(some 22), none, (.q (.mov (.t 25)))⟩,
    ⟨(some 26), none, (.q (.ext 0 (.t 22)))⟩,
    ⟨(some 27), none, (.q (.ext 1 (.t 22)))⟩,
    ⟨(some 6), none, (.q (.mov (.t 26)))⟩,
    ⟨(some 7), none, (.q (.mov (.t 27)))⟩] [0, 1, 4, 6, 7, 9, 16, 33]) (
  .seq (
  .seq (
  .reg [⟨(some 28), none, (.q (.mov (.t 7)))⟩,
    ⟨(some 29), none, (.q (.un .not (.t 28)))⟩] [0, 1, 4, 6, 9, 16, 29, 33]) (
  .cond (.t 29) (
   .seq (
   .reg [⟨(some 30), none, (.q (.bld (.agg [1, 1, 1, 1, 1, 1, 1, 1, 1, 1, 1, 1, 1] [(.sc (.int .i64 0)), (.sc (.int .i64 0)), (.sc (.int .i64 0)), (.sc (.int .i64 0)), (.sc (.bool false)), (.sc (.int .u64 0)), (.sc (.int .i64 0)), (.sc (.int .i64 0)), (.slice none 0), (.sc (.int .i64 0)), (.slice none 0), (.sc (.int .i64 0)), (.sc (.int .i64 0))]) []))⟩,
     ⟨none, none, (.ac (.st 13 (.t 4) (.t 30)))⟩,
     ⟨(some 5), none, (.q (.mov (.k (.int .i64 3))))⟩] [4, 5, 9, 16, 33]) (
   .ret)) (
   .skip))) (
  .seq (
  .reg [⟨(some 31), none, (.q (.mov (.t 6)))⟩,
    ⟨(some 32), none, (.q (.bld (.agg [1, 1, 1] [(.slice none 0), (.sc (.int .i64 0)), (.sc (.bool false))]) [(0, (.t 31))]))⟩,
    ⟨(some 33), none, (.al (.box (.t 32)))⟩,
    ⟨(some 8), none, (.q (.mov (.t 33)))⟩] [0, 1, 4, 8, 16, 33]) (
  .seq (
  .reg [⟨(some 34), none, (.q (.mov (.t 8)))⟩,
    ⟨(some 35), none, (.ac (.callf 47 [(.t 34), (.k (.int .i64 3))]))⟩,
    ⟨(some 36), none, (.q (.conv 39 3 (.t 35)))⟩,
    ⟨(some 37), none, (.q (.mov (.t 8)))⟩,
    ⟨(some 38), none, (.ac (.callf 47 [(.t 37), (.k (.int .i64 3))]))⟩,
    ⟨(some 39), none, (.q (.conv 39 3 (.t 38)))⟩,
    ⟨(some 40), none, (.q (.mov (.t 8)))⟩,
    ⟨(some 41), none, (.ac (.callf 47 [(.t 40), (.k (.int .i64 16))]))⟩,
    ⟨(some 42), none, (.q (.conv 39 3 (.t 41)))⟩,
    ⟨(some 43), none, (.q (.mov (.t 8)))⟩,
    ⟨(some 44), none, (.ac (.callf 47 [(.t 43), (.k (.int .i64 16))]))⟩,
    ⟨(some 45), none, (.q (.conv 39 3 (.t 44)))⟩,
    ⟨(some 46), none, (.q (.mov (.t 8)))⟩,
    ⟨(some 47), none, (.ac (.callf 47 [(.t 46), (.k (.int .i64 1))]))⟩,
    ⟨(some 48), none, (.q (.bin .eql 39 (.t 47) (.k (.int .u64 1))))⟩,
    ⟨(some 49), none, (.q (.mov (.t 8)))⟩,
    ⟨(some 50), none, (.ac (.callf 47 [(.t 49), (.k (.int .i64 64))]))⟩,
    ⟨(some 51), none, (.q (.bld (.agg [1, 1, 1, 1, 1, 1, 1, 1, 1, 1, 1, 1, 1] [(.sc (.int .i64 0)), (.sc (.int .i64 0)), (.sc (.int .i64 0)), (.sc (.int .i64 0)), (.sc (.bool false)), (.sc (.int .u64 0)), (.sc (.int .i64 0)), (.sc (.int .i64 0)), (.slice none 0), (.sc (.int .i64 0)), (.slice none 0), (.sc (.int .i64 0)), (.sc (.int .i64 0))]) [(0, (.t 36)), (1, (.t 39)), (2, (.t 42)), (3, (.t 45)), (4, (.t 48)), (5, (.t 50))]))⟩,
    ⟨(some 9), none, (.al (.alloc (.agg [1, 1, 1, 1, 1, 1, 1, 1, 1, 1, 1, 1, 1] [(.sc (.int .i64 0)), (.sc (.int .i64 0)), (.sc (.int .i64 0)), (.sc (.int .i64 0)), (.sc (.bool false)), (.sc (.int .u64 0)), (.sc (.int .i64 0)), (.sc (.int .i64 0)), (.slice none 0), (.sc (.int .i64 0)), (.slice none 0), (.sc (.int .i64 0)), (.sc (.int .i64 0))])))⟩,
    ⟨none, none, (.ac (.st 13 (.t 9) (.t 51)))⟩] [0, 1, 4, 8, 9, 16, 33]) (
  .seq (
  .seq (
  .reg [⟨(some 52), none, (.q (.fld 0 0 (.t 9)))⟩,
    ⟨(some 53), none, (.rd (.ld false 1 (.t 52)))⟩] [0, 1, 4, 8, 9, 16, 33, 53]) (
  .block 0 (
   .seq (
   .reg [⟨(some 55), none, (.q (.bin .eql 3 (.t 53) (.k (.int .i64 2))))⟩,
     ⟨(some 54), none, (.q (.mov (.t 55)))⟩] [0, 1, 4, 8, 9, 16, 33, 53, 54]) (
   .cond (.t 54) (
    .seq (
    .reg [⟨(some 56), none, (.q (.mov (.t 8)))⟩,
      ⟨(some 57), none, (.ac (.callf 47 [(.t 56), (.k (.int .i64 10))]))⟩,
      ⟨(some 58), none, (.q (.conv 39 3 (.t 57)))⟩,
      ⟨(some 59), none, (.q (.fld 6 6 (.t 9)))⟩,
      ⟨none, none, (.ac (.st 1 (.t 59) (.t 58)))⟩] [0, 1, 4, 8, 9, 16, 33]) (
    .seq (
    .reg [⟨(some 60), none, (.q (.mov (.t 8)))⟩,
      ⟨(some 61), none, (.ac (.callf 47 [(.t 60), (.k (.int .i64 10))]))⟩,
      ⟨(some 62), none, (.q (.conv 39 3 (.t 61)))⟩,
      ⟨(some 63), none, (.q (.fld 7 7 (.t 9)))⟩,
      ⟨none, none, (.ac (.st 1 (.t 63) (.t 62)))⟩] [0, 1, 4, 8, 9, 16, 33]) (
    .seq (
    .reg [⟨(some 64), none, (.q (.mov (.t 8)))⟩,
      ⟨(some 65), none, (.ac (.callf 47 [(.t 64), (.k (.int .i64 5))]))⟩,
      ⟨(some 66), none, (.q (.conv 39 3 (.t 65)))⟩,
      ⟨(some 10), none, (.q (.mov (.t 66)))⟩] [0, 1, 4, 8, 9, 10, 16, 33]) (
    .seq (
    .reg [⟨(some 11), none, (.q (.mov (.k (.int .i64 0))))⟩] [0, 1, 4, 8, 9, 10, 11, 16, 33]) (
    .block 1 (
     .loop [0, 1, 4, 8, 9, 10, 11, 16, 33] (
      .seq (
      .seq (
      .reg [⟨(some 67), none, (.q (.mov (.t 11)))⟩,
        ⟨(some 68), none, (.q (.mov (.t 10)))⟩,
        ⟨(some 69), none, (.q (.bin .lss 3 (.t 67) (.t 68)))⟩] [0, 1, 4, 8, 9, 10, 11, 16, 33, 69]) (
      .cond (.t 69) (
       .skip) (
       .exit 1))) (
      .seq (
      .block 2 (
       .draw [(2, ⟨(some 74), none, (.q (.mov (.t 8)))⟩, 0),
         (3, ⟨(some 75), none, (.ac (.callf 48 [(.t 74)]))⟩, 0),
         (0, ⟨(some 72), none, (.q (.fld 8 8 (.t 9)))⟩, 1),
         (1, ⟨(some 73), none, (.rd (.ld false 1 (.t 72)))⟩, 1),
         (4, ⟨(some 76), none, (.al (.bldS 3 1 (.agg [1, 1, 1] [(.sc (.int .i64 0)), (.sc (.int .i64 0)), (.sc (.int .i64 0))]) [(0, (.t 75))]))⟩, 0),
         (5, ⟨(some 77), none, (.ac (.app true 3 24 (.t 73) (.t 76)))⟩, 0),
         (6, ⟨(some 78), none, (.q (.fld 8 8 (.t 9)))⟩, 0),
         (7, ⟨none, none, (.ac (.st 1 (.t 78) (.t 77)))⟩, 0)] [0, 1, 4, 8, 9, 10, 11, 16, 33])) (
      .reg [⟨(some 70), none, (.q (.mov (.t 11)))⟩,
        ⟨(some 71), none, (.q (.bin .add 3 (.t 70) (.k (.int .i64 1))))⟩,
        ⟨(some 11), none, (.q (.mov (.t 71)))⟩] [0, 1, 4, 8, 9, 10, 11, 16, 33]))))))))) (
    .seq (
    .reg [⟨(some 80), none, (.q (.bin .eql 3 (.t 53) (.k (.int .i64 3))))⟩,
      ⟨(some 79), none, (.q (.mov (.t 80)))⟩] [0, 1, 4, 8, 9, 16, 33, 53, 79]) (
    .cond (.t 79) (
     .seq (
     .reg [⟨(some 81), none, (.q (.mov (.t 8)))⟩,
       ⟨(some 82), none, (.ac (.callf 47 [(.t 81), (.k (.int .i64 10))]))⟩,
       ⟨(some 83), none, (.q (.conv 39 3 (.t 82)))⟩,
       ⟨(some 84), none, (.q (.fld 7 7 (.t 9)))⟩,
       ⟨none, none, (.ac (.st 1 (.t 84) (.t 83)))⟩] [0, 1, 4, 8, 9, 33]) (
     .seq (
     .reg [⟨(some 85), none, (.q (.mov (.t 8)))⟩,
       ⟨(some 86), none, (.ac (.callf 47 [(.t 85), (.k (.int .i64 4))]))⟩,
       ⟨(some 87), none, (.q (.conv 39 3 (.t 86)))⟩,
       ⟨(some 88), none, (.q (.fld 9 9 (.t 9)))⟩,
       ⟨none, none, (.ac (.st 1 (.t 88) (.t 87)))⟩] [0, 1, 4, 8, 9, 33]) (
     .seq (
     .reg [⟨(some 89), none, (.q (.mov (.t 8)))⟩,
       ⟨(some 90), none, (.ac (.callf 47 [(.t 89), (.k (.int .i64 4))]))⟩,
       ⟨(some 91), none, (.q (.conv 39 3 (.t 90)))⟩,
       ⟨(some 12), none, (.q (.mov (.t 91)))⟩] [0, 1, 4, 8, 9, 12, 33]) (
     .seq (
     .reg [⟨(some 13), none, (.q (.mov (.k (.int .i64 0))))⟩] [0, 1, 4, 8, 9, 12, 13, 33]) (
     .block 3 (
      .loop [0, 1, 4, 8, 9, 12, 13, 33] (
       .free [16] (
       .seq (
       .seq (
       .reg [⟨(some 92), none, (.q (.mov (.t 13)))⟩,
         ⟨(some 93), none, (.q (.mov (.t 12)))⟩,
         ⟨(some 94), none, (.q (.bin .lss 3 (.t 92) (.t 93)))⟩] [0, 1, 4, 8, 9, 12, 13, 16, 33, 94]) (
       .cond (.t 94) (
        .skip) (
        .exit 3))) (
       .seq (
       .block 4 (
        .seq (
        .reg [⟨(some 14), none, (.q (.mov .nils))⟩] [0, 1, 4, 8, 9, 12, 13, 14, 33]) (
        .seq (
        .seq (
        .reg [⟨(some 15), none, (.q (.mov (.k (.int .i64 0))))⟩] [0, 1, 4, 8, 9, 12, 13, 14, 15, 33]) (
        .block 5 (
         .loop [0, 1, 4, 8, 9, 12, 13, 14, 15, 33] (
          .free [16] (
          .seq (
          .seq (
          .reg [⟨(some 97), none, (.q (.mov (.t 15)))⟩,
            ⟨(some 98), none, (.q (.fld 9 9 (.t 9)))⟩,
            ⟨(some 99), none, (.rd (.ld false 1 (.t 98)))⟩,
            ⟨(some 100), none, (.q (.bin .lss 3 (.t 97) (.t 99)))⟩] [0, 1, 4, 8, 9, 12, 13, 14, 15, 16, 33, 100]) (
          .cond (.t 100) (
           .skip) (
           .exit 5))) (
          .seq (
          .block 6 (
           .seq (
           .reg [⟨(some 103), none, (.q (.mov (.t 8)))⟩,
             ⟨(some 104), none, (.ac (.callf 47 [(.t 103), (.k (.int .i64 1))]))⟩,
             ⟨(some 105), none, (.q (.bin .eql 39 (.t 104) (.k (.int .u64 1))))⟩,
             ⟨(some 106), none, (.q (.bld (.agg [1, 3] [(.sc (.bool false)), (.agg [1, 1, 1] [(.sc (.int .i64 0)), (.sc (.int .i64 0)), (.sc (.int .i64 0))])]) [(0, (.t 105))]))⟩,
             ⟨(some 16), none, (.al (.alloc (.agg [1, 3] [(.sc (.bool false)), (.agg [1, 1, 1] [(.sc (.int .i64 0)), (.sc (.int .i64 0)), (.sc (.int .i64 0))])])))⟩,
             ⟨none, none, (.ac (.st 4 (.t 16) (.t 106)))⟩] [0, 1, 4, 8, 9, 12, 13, 14, 15, 16, 33]) (
           .seq (
           .seq (
           .reg [⟨(some 107), none, (.q (.fld 0 0 (.t 16)))⟩,
             ⟨(some 108), none, (.rd (.ld false 1 (.t 107)))⟩] [0, 1, 4, 8, 9, 12, 13, 14, 15, 16, 33, 108]) (
           .cond (.t 108) (
            .reg [⟨(some 109), none, (.q (.mov (.t 8)))⟩,
              ⟨(some 110), none, (.ac (.callf 48 [(.t 109)]))⟩,
              ⟨(some 111), none, (.q (.fld 1 1 (.t 16)))⟩,
              ⟨none, none, (.ac (.st 3 (.t 111) (.t 110)))⟩] [0, 1, 4, 8, 9, 12, 13, 14, 15, 16, 33]) (
            .skip))) (
           .reg [⟨(some 112), none, (.q (.mov (.t 14)))⟩,
             ⟨(some 113), none, (.rd (.ld true 4 (.t 16)))⟩,
             ⟨(some 114), none, (.al (.bldS 4 1 (.agg [1, 3] [(.sc (.bool false)), (.agg [1, 1, 1] [(.sc (.int .i64 0)), (.sc (.int .i64 0)), (.sc (.int .i64 0))])]) [(0, (.t 113))]))⟩,
             ⟨(some 115), none, (.ac (.app true 4 32 (.t 112) (.t 114)))⟩,
             ⟨(some 14), none, (.q (.mov (.t 115)))⟩] [0, 1, 4, 8, 9, 12, 13, 14, 15, 16, 33])))) (
          .reg [⟨(some 101), none, (.q (.mov (.t 15)))⟩,
            ⟨(some 102), none, (.q (.bin .add 3 (.t 101) (.k (.int .i64 1))))⟩,
            ⟨(some 15), none, (.q (.mov (.t 102)))⟩] [0, 1, 4, 8, 9, 12, 13, 14, 15, 16, 33]))))))) (
        .reg [⟨(some 116), none, (.q (.fld 10 10 (.t 9)))⟩,
          ⟨(some 117), none, (.rd (.ld false 1 (.t 116)))⟩,
          ⟨(some 118), none, (.q (.mov (.t 14)))⟩,
          ⟨(some 119), none, (.al (.bldS 1 1 (.slice none 0) [(0, (.t 118))]))⟩,
          ⟨(some 120), none, (.ac (.app true 1 24 (.t 117) (.t 119)))⟩,
          ⟨(some 121), none, (.q (.fld 10 10 (.t 9)))⟩,
          ⟨none, none, (.ac (.st 1 (.t 121) (.t 120)))⟩] [0, 1, 4, 8, 9, 12, 13, 16, 33])))) (
       .reg [⟨(some 95), none, (.q (.mov (.t 13)))⟩,
         ⟨(some 96), none, (.q (.bin .add 3 (.t 95) (.k (.int .i64 1))))⟩,
         ⟨(some 13), none, (.q (.mov (.t 96)))⟩] [0, 1, 4, 8, 9, 12, 13, 16, 33])))))))))) (
     .seq (
     .reg [⟨(some 123), none, (.q (.bin .eql 3 (.t 53) (.k (.int .i64 4))))⟩,
       ⟨(some 122), none, (.q (.mov (.t 123)))⟩] [0, 1, 4, 8, 9, 16, 33, 122]) (
     .cond (.t 122) (
      .seq (
      .reg [⟨(some 124), none, (.q (.mov (.t 8)))⟩,
        ⟨(some 125), none, (.ac (.callf 47 [(.t 124), (.k (.int .i64 10))]))⟩,
        ⟨(some 126), none, (.q (.conv 39 3 (.t 125)))⟩,
        ⟨(some 127), none, (.q (.fld 11 11 (.t 9)))⟩,
        ⟨none, none, (.ac (.st 1 (.t 127) (.t 126)))⟩] [0, 1, 4, 8, 9, 16, 33]) (
      .reg [⟨(some 128), none, (.q (.mov (.t 8)))⟩,
        ⟨(some 129), none, (.ac (.callf 47 [(.t 128), (.k (.int .i64 62))]))⟩,
        ⟨(some 130), none, (.q (.conv 39 3 (.t 129)))⟩,
        ⟨(some 131), none, (.q (.fld 12 12 (.t 9)))⟩,
        ⟨none, none, (.ac (.st 1 (.t 131) (.t 130)))⟩] [0, 1, 4, 8, 9, 16, 33])) (
      .skip))))))))) (
  .seq (
  .reg [⟨(some 133), none, (.q (.mov (.t 0)))⟩,
    ⟨(some 134), none, (.rd (.ld true 13 (.t 9)))⟩,
    ⟨(some 135), none, (.ac (.callf 28 [(.t 133), (.t 134)]))⟩,
    ⟨(some 132), none, (.q (.mov (.t 135)))⟩,
    ⟨(some 136), none, (.q (.ext 0 (.t 132)))⟩,
    ⟨(some 137), none, (.q (.ext 1 (.t 132)))⟩,
    ⟨(some 17), none, (.q (.mov (.t 136)))⟩,
    ⟨(some 7), none, (.q (.mov (.t 137)))⟩] [1, 4, 7, 8, 9, 16, 17, 33]) (
  .seq (
  .seq (
  .reg [⟨(some 138), none, (.q (.mov (.t 8)))⟩,
    ⟨(some 139), none, (.q (.nchk (.t 138)))⟩,
    ⟨(some 140), none, (.q (.fld 2 2 (.t 139)))⟩,
    ⟨(some 141), none, (.rd (.ld false 1 (.t 140)))⟩,
    ⟨(some 142), none, (.q (.mov (.t 141)))⟩,
    ⟨(some 143), (some (142, false)), (.q (.mov (.t 7)))⟩,
    ⟨(some 144), (some (142, false)), (.q (.un .not (.t 143)))⟩,
    ⟨(some 145), none, (.q (.pick (.t 142) (.k (.bool true)) (.t 144)))⟩,
    ⟨(some 146), none, (.q (.mov (.t 145)))⟩,
    ⟨(some 147), (some (146, false)), (.q (.mov (.t 17)))⟩,
    ⟨(some 148), (some (146, false)), (.rd (.cvs (.t 147)))⟩,
    ⟨(some 149), (some (146, false)), (.q (.mov (.t 1)))⟩,
    ⟨(some 150), (some (146, false)), (.rd (.cvs (.t 149)))⟩,
    ⟨(some 151), (some (146, false)), (.q (.bin .neq 9 (.t 148) (.t 150)))⟩,
    ⟨(some 152), none, (.q (.pick (.t 146) (.k (.bool true)) (.t 151)))⟩] [4, 9, 16, 33, 152]) (
  .cond (.t 152) (
   .seq (
   .reg [⟨(some 153), none, (.q (.bld (.agg [1, 1, 1, 1, 1, 1, 1, 1, 1, 1, 1, 1, 1] [(.sc (.int .i64 0)), (.sc (.int .i64 0)), (.sc (.int .i64 0)), (.sc (.int .i64 0)), (.sc (.bool false)), (.sc (.int .u64 0)), (.sc (.int .i64 0)), (.sc (.int .i64 0)), (.slice none 0), (.sc (.int .i64 0)), (.slice none 0), (.sc (.int .i64 0)), (.sc (.int .i64 0))]) []))⟩,
     ⟨none, none, (.ac (.st 13 (.t 4) (.t 153)))⟩,
     ⟨(some 5), none, (.q (.mov (.k (.int .i64 2))))⟩] [4, 5, 9, 16, 33]) (
   .ret)) (
   .skip))) (
  .seq (
  .reg [⟨(some 154), none, (.rd (.ld true 13 (.t 9)))⟩,
    ⟨none, none, (.ac (.st 13 (.t 4) (.t 154)))⟩,
    ⟨(some 5), none, (.q (.mov (.k (.int .i64 0))))⟩] [4, 5, 9, 16, 33]) (
  .ret)))))))))),
  [.cell 4 true 13, .tmp 5], [4, 33, 9, 16]⟩
noncomputable def g12 : HFn Tryz.prog := ⟨r12, fun K => wslow Tryz.prog K r12.code, fun _ _ hK => wslow_fits hK _ (by decide +kernel)⟩
theorem c12 : chkF Tryz.prog Tryz.f12 r12 = true := by decide +kernel

/-- doubletake/doubletakeref11.Mark -/
def r13 : RFn := ⟨2,
  .seq (
  .reg [⟨(some 2), none, (.al (.box (.t 0)))⟩,
    ⟨(some 3), none, (.al (.box (.t 1)))⟩,
    ⟨(some 4), none, (.q (.mov (.k (.int .i64 0))))⟩] [2, 3]) (
  .seq (
  .reg [⟨(some 8), none, (.rd (.ld true 10 (.t 2)))⟩,
    ⟨(some 9), none, (.rd (.ld true 202 (.t 3)))⟩,
    ⟨(some 10), none, (.ac (.callf 49 [(.t 8), (.t 9)]))⟩,
    ⟨(some 7), none, (.q (.mov (.t 10)))⟩,
    ⟨(some 11), none, (.q (.ext 0 (.t 7)))⟩,
    ⟨(some 12), none, (.q (.ext 1 (.t 7)))⟩,
    ⟨(some 5), none, (.q (.mov (.t 11)))⟩,
    ⟨(some 6), none, (.q (.mov (.t 12)))⟩] [2, 3, 5, 6]) (
  .seq (
  .seq (
  .reg [⟨(some 13), none, (.q (.mov (.t 6)))⟩,
    ⟨(some 14), none, (.q (.un .not (.t 13)))⟩] [2, 3, 5, 14]) (
  .cond (.t 14) (
   .seq (
   .reg [⟨(some 4), none, (.q (.mov (.k (.int .i64 0))))⟩] [2, 3, 4]) (
   .ret)) (
   .skip))) (
  .seq (
  .reg [⟨(some 15), none, (.q (.mov (.t 5)))⟩,
    ⟨(some 16), none, (.ac (.callf 50 [(.t 15)]))⟩,
    ⟨(some 4), none, (.q (.mov (.t 16)))⟩] [2, 3, 4]) (
  .ret)))),
  [.tmp 4], [2, 3]⟩
noncomputable def g13 : HFn Tryz.prog := ⟨r13, fun K => wslow Tryz.prog K r13.code, fun _ _ hK => wslow_fits hK _ (by decide +kernel)⟩
theorem c13 : chkF Tryz.prog Tryz.f13 r13 = true := by decide +kernel

/-- (*doubletake/server.Server).State -/
def r14 : RFn := ⟨1,
  .seq (
  .reg [⟨(some 2), none, (.al (.alloc (.agg [1, 1, 192, 8] [(.sc (.int .i64 0)), (.sc (.int .u64 0)), (.arr 12 (List.replicate 16 (.agg [1, 1, 1, 1, 1, 1, 1, 4, 1] [(.sc (.int .i64 0)), (.sc (.int .i64 0)), (.sc (.int .i64 0)), (.sc (.int .i64 0)), (.sc (.int .i64 0)), (.sc (.int .i64 0)), (.sc (.int .i64 0)), (.arr 1 (List.replicate 4 (.sc (.int .i64 0)))), (.sc (.int .i64 0))]))), (.arr 1 (List.replicate 8 (.sc (.int .i64 0))))])))⟩] [0, 2]) (
  .seq (
  .reg [⟨(some 3), none, (.q (.mov (.t 0)))⟩,
    ⟨(some 4), none, (.q (.nchk (.t 3)))⟩,
    ⟨(some 5), none, (.q (.fld 3 12 (.t 4)))⟩,
    ⟨(some 6), none, (.rd (.ld true 202 (.t 5)))⟩,
    ⟨none, none, (.ac (.st 202 (.t 2) (.t 6)))⟩] [2]) (
  .ret)),
  [.cell 2 true 202], [2]⟩
noncomputable def g14 : HFn Tryz.prog := ⟨r14, fun K => wslow Tryz.prog K r14.code, fun _ _ hK => wslow_fits hK _ (by decide +kernel)⟩
theorem c14 : chkF Tryz.prog Tryz.f14 r14 = true := by decide +kernel

/-- (*doubletake/server.Server).Log -/
def r15 : RFn := ⟨1,
  .seq (
  .reg [⟨(some 2), none, (.q (.mov .nils))⟩] [0]) (
  .seq (
  .reg [⟨(some 3), none, (.q (.mov (.t 0)))⟩,
    ⟨(some 4), none, (.q (.nchk (.t 3)))⟩,
    ⟨(some 5), none, (.q (.fld 2 11 (.t 4)))⟩,
    ⟨(some 6), none, (.rd (.ld false 1 (.t 5)))⟩,
    ⟨(some 7), none, (.ac (.callf 51 [(.t 6), (.k (.int .i64 0)), (.k (.int .i64 600))]))⟩,
    ⟨(some 2), none, (.q (.mov (.t 7)))⟩] [2]) (
  .ret)),
  [.tmp 2], []⟩
noncomputable def g15 : HFn Tryz.prog := ⟨r15, fun K => wslow Tryz.prog K r15.code, fun _ _ hK => wslow_fits hK _ (by decide +kernel)⟩
theorem c15 : chkF Tryz.prog Tryz.f15 r15 = true := by decide +kernel

/-- (*doubletake/server.Server).Desync -/
def r16 : RFn := ⟨2,
  .seq (
  .reg [⟨(some 4), none, (.q (.mov (.k (.bool false))))⟩] [0, 1]) (
  .seq (
  .reg [⟨(some 5), none, (.q (.mov (.t 1)))⟩,
    ⟨(some 6), none, (.q (.bin .geq 3 (.t 5) (.k (.int .i64 0))))⟩,
    ⟨(some 7), none, (.q (.mov (.t 6)))⟩,
    ⟨(some 8), (some (7, true)), (.q (.mov (.t 1)))⟩,
    ⟨(some 9), (some (7, true)), (.q (.mov (.t 0)))⟩,
    ⟨(some 10), (some (7, true)), (.q (.nchk (.t 9)))⟩,
    ⟨(some 11), (some (7, true)), (.q (.fld 5 215 (.t 10)))⟩,
    ⟨(some 12), (some (7, true)), (.rd (.ld false 1 (.t 11)))⟩,
    ⟨(some 13), (some (7, true)), (.q (.len false (.t 12)))⟩,
    ⟨(some 14), (some (7, true)), (.q (.bin .lss 3 (.t 8) (.t 13)))⟩,
    ⟨(some 15), none, (.q (.pick (.t 7) (.t 14) (.k (.bool false))))⟩,
    ⟨(some 16), none, (.q (.mov (.t 15)))⟩,
    ⟨(some 17), (some (16, true)), (.q (.mov (.t 0)))⟩,
    ⟨(some 18), (some (16, true)), (.q (.nchk (.t 17)))⟩,
    ⟨(some 19), (some (16, true)), (.q (.fld 5 215 (.t 18)))⟩,
    ⟨(some 20), (some (16, true)), (.rd (.ld false 1 (.t 19)))⟩,
    ⟨(some 21), (some (16, true)), (.q (.mov (.t 1)))⟩,
    ⟨(some 22), (some (16, true)), (.q (.ixs 3 (.t 20) (.t 21)))⟩,
    ⟨(some 23), (some (16, true)), (.q (.fld 1 1 (.t 22)))⟩,
    ⟨(some 24), (some (16, true)), (.rd (.ld false 1 (.t 23)))⟩,
    ⟨(some 25), none, (.q (.pick (.t 16) (.t 24) (.k (.bool false))))⟩,
    ⟨(some 4), none, (.q (.mov (.t 25)))⟩] [4]) (
  .ret)),
  [.tmp 4], []⟩
noncomputable def g16 : HFn Tryz.prog := ⟨r16, fun K => wslow Tryz.prog K r16.code, fun _ _ hK => wslow_fits hK _ (by decide +kernel)⟩
theorem c16 : chkF Tryz.prog Tryz.f16 r16 = true := by decide +kernel

/-- (*doubletake/server.Server).Offers -/
def r17 : RFn := ⟨1,
  .seq (
  .reg [⟨(some 2), none, (.al (.alloc (.arr 1 (List.replicate 6 (.sc (.int .i64 0))))))⟩] [0, 2]) (
  .seq (
  .reg [⟨(some 3), none, (.q (.mov (.t 0)))⟩,
    ⟨(some 4), none, (.q (.nchk (.t 3)))⟩,
    ⟨(some 5), none, (.q (.fld 6 216 (.t 4)))⟩,
    ⟨(some 6), none, (.rd (.ld true 6 (.t 5)))⟩,
    ⟨none, none, (.ac (.st 6 (.t 2) (.t 6)))⟩] [2]) (
  .ret)),
  [.cell 2 true 6], [2]⟩
noncomputable def g17 : HFn Tryz.prog := ⟨r17, fun K => wslow Tryz.prog K r17.code, fun _ _ hK => wslow_fits hK _ (by decide +kernel)⟩
theorem c17 : chkF Tryz.prog Tryz.f17 r17 = true := by decide +kernel

/-- (*doubletake/server.Server).Counts -/
def r18 : RFn := ⟨1,
  .seq (
  .reg [⟨(some 2), none, (.al (.alloc (.arr 1 (List.replicate 6 (.sc (.int .i64 0))))))⟩] [0, 2]) (
  .seq (
  .reg [⟨(some 3), none, (.q (.mov (.t 0)))⟩,
    ⟨(some 4), none, (.q (.nchk (.t 3)))⟩,
    ⟨(some 5), none, (.q (.fld 1 10 (.t 4)))⟩,
    ⟨(some 6), none, (.rd (.ld false 1 (.t 5)))⟩,
    ⟨(some 7), none, (.ac (.callf 52 [(.t 6)]))⟩,
    ⟨none, none, (.ac (.st 6 (.t 2) (.t 7)))⟩] [2]) (
  .ret)),
  [.cell 2 true 6], [2]⟩
noncomputable def g18 : HFn Tryz.prog := ⟨r18, fun K => wslow Tryz.prog K r18.code, fun _ _ hK => wslow_fits hK _ (by decide +kernel)⟩
theorem c18 : chkF Tryz.prog Tryz.f18 r18 = true := by decide +kernel

/-- (*doubletake/server.Server).Ended -/
def r19 : RFn := ⟨1,
  .seq (
  .reg [⟨(some 2), none, (.q (.mov (.k (.bool false))))⟩] [0]) (
  .seq (
  .reg [⟨(some 3), none, (.q (.mov (.t 0)))⟩,
    ⟨(some 4), none, (.q (.nchk (.t 3)))⟩,
    ⟨(some 5), none, (.q (.fld 2 11 (.t 4)))⟩,
    ⟨(some 6), none, (.rd (.ld false 1 (.t 5)))⟩,
    ⟨(some 7), none, (.ac (.callf 53 [(.t 6)]))⟩,
    ⟨(some 2), none, (.q (.mov (.t 7)))⟩] [2]) (
  .ret)),
  [.tmp 2], []⟩
noncomputable def g19 : HFn Tryz.prog := ⟨r19, fun K => wslow Tryz.prog K r19.code, fun _ _ hK => wslow_fits hK _ (by decide +kernel)⟩
theorem c19 : chkF Tryz.prog Tryz.f19 r19 = true := by decide +kernel

/-- doubletake/doubletakeref15.Lay -/
def r28 : RFn := ⟨2,
  .seq (
  .reg [⟨(some 3), none, (.al (.box (.t 1)))⟩,
    ⟨(some 4), none, (.q (.mov .nils))⟩,
    ⟨(some 5), none, (.q (.mov (.k (.bool false))))⟩] [0, 3]) (
  .seq (
  .seq (
  .reg [⟨(some 6), none, (.rd (.ld true 13 (.t 3)))⟩,
    ⟨(some 7), none, (.ac (.callf 60 [(.t 6)]))⟩,
    ⟨(some 8), none, (.q (.un .not (.t 7)))⟩] [0, 3, 8]) (
  .cond (.t 8) (
   .seq (
   .reg [⟨(some 4), none, (.q (.mov .nils))⟩,
     ⟨(some 5), none, (.q (.mov (.k (.bool false))))⟩] [3, 4, 5]) (
   .ret)) (
   .skip))) (
  .seq (
  .reg [⟨(some 9), none, (.q (.mov (.t 0)))⟩,
    ⟨(some 10), none, (.rd (.ld true 13 (.t 3)))⟩,
    ⟨(some 11), none, (.ac (.callf 62 [(.t 10)]))⟩,
    ⟨(some 12), none, (.ac (.callf 61 [(.t 9), (.t 11)]))⟩,
    ⟨(some 4), none, (.q (.mov (.t 12)))⟩,
    ⟨(some 5), none, (.q (.mov (.k (.bool true))))⟩] [3, 4, 5]) (
  .ret))),
  [.tmp 4, .tmp 5], [3]⟩
noncomputable def g28 : HFn Tryz.prog := ⟨r28, fun K => wslow Tryz.prog K r28.code, fun _ _ hK => wslow_fits hK _ (by decide +kernel)⟩
theorem c28 : chkF Tryz.prog Tryz.f28 r28 = true := by decide +kernel

/-- doubletake/gate.New -/
def r33 : RFn := ⟨1,
  .seq (
  .reg [⟨(some 1), none, (.al (.box (.t 0)))⟩,
    ⟨(some 2), none, (.q (.mov .nilp))⟩,
    ⟨(some 3), none, (.q (.mov (.k (.int .i64 0))))⟩] [1]) (
  .seq (
  .seq (
  .reg [⟨(some 9), none, (.rd (.ld true 10 (.t 1)))⟩,
    ⟨(some 10), none, (.ac (.callf 64 [(.t 9)]))⟩,
    ⟨(some 11), none, (.q (.un .not (.t 10)))⟩] [1, 11]) (
  .cond (.t 11) (
   .seq (
   .reg [⟨(some 2), none, (.q (.mov .nilp))⟩,
     ⟨(some 3), none, (.q (.mov (.k (.int .i64 1))))⟩] [1, 2, 3]) (
   .ret)) (
   .skip))) (
  .seq (
  .reg [⟨(some 12), none, (.q (.bld (.agg [1, 6] [(.slice none 0), (.arr 1 (List.replicate 6 (.sc (.int .i64 0))))]) []))⟩,
    ⟨(some 13), none, (.al (.box (.t 12)))⟩,
    ⟨(some 4), none, (.q (.mov (.t 13)))⟩] [1, 4]) (
  .seq (
  .seq (
  .reg [⟨(some 14), none, (.q (.fld 9 9 (.t 1)))⟩,
    ⟨(some 15), none, (.rd (.ld false 1 (.t 14)))⟩,
    ⟨(some 16), none, (.q (.len false (.t 15)))⟩,
    ⟨(some 17), none, (.q (.mov (.k (.int .i64 0))))⟩] [1, 4, 15, 16, 17]) (
  .block 0 (
   .loop [1, 4, 15, 16, 17] (
    .seq (
    .reg [⟨(some 18), none, (.q (.bin .lss 3 (.t 17) (.t 16)))⟩] [1, 4, 15, 16, 17, 18]) (
    .seq (
    .cond (.t 18) (
     .skip) (
     .exit 0)) (
    .seq (
    .block 1 (
     .seq (
     .reg [⟨(some 19), none, (.q (.ixs 1 (.t 15) (.t 17)))⟩,
       ⟨(some 20), none, (.rd (.ld false 1 (.t 19)))⟩,
       ⟨(some 6), none, (.q (.mov (.t 20)))⟩] [1, 4, 6, 15, 16, 17]) (
     .seq (
     .reg [⟨(some 22), none, (.q (.fld 6 6 (.t 1)))⟩,
       ⟨(some 23), none, (.rd (.ld false 1 (.t 22)))⟩,
       ⟨(some 24), none, (.q (.fld 7 7 (.t 1)))⟩,
       ⟨(some 25), none, (.rd (.ld false 1 (.t 24)))⟩,
       ⟨(some 26), none, (.ac (.callf 65 [(.t 23), (.t 25)]))⟩,
       ⟨(some 21), none, (.q (.mov (.t 26)))⟩,
       ⟨(some 27), none, (.q (.ext 0 (.t 21)))⟩,
       ⟨(some 28), none, (.q (.ext 1 (.t 21)))⟩,
       ⟨(some 7), none, (.q (.mov (.t 27)))⟩,
       ⟨(some 8), none, (.q (.mov (.t 28)))⟩] [1, 4, 6, 7, 15, 16, 17]) (
     .reg [⟨(some 29), none, (.q (.mov (.t 4)))⟩,
       ⟨(some 30), none, (.q (.mov (.t 4)))⟩,
       ⟨(some 31), none, (.q (.nchk (.t 30)))⟩,
       ⟨(some 32), none, (.q (.fld 0 0 (.t 31)))⟩,
       ⟨(some 33), none, (.rd (.ld false 1 (.t 32)))⟩,
       ⟨(some 34), none, (.q (.mov (.t 6)))⟩,
       ⟨(some 35), none, (.q (.bld (.agg [1, 1, 3, 3] [(.sc (.int .i64 0)), (.slice none 0), (.agg [1, 1, 1] [(.sc (.bool false)), (.sc (.int .i64 0)), (.sc (.int .u64 0))]), (.agg [1, 1, 1] [(.sc (.int .i64 0)), (.sc (.float .f64 0)), (.sc (.float .f64 0))])]) []))⟩,
       ⟨(some 36), none, (.al (.box (.t 35)))⟩,
       ⟨(some 37), none, (.q (.mov (.t 7)))⟩,
       ⟨(some 38), none, (.q (.bld (.agg [1, 1, 1, 1, 1] [(.sc (.int .i64 0)), (.ptr none), (.ptr none), (.sc (.bool false)), (.sc (.int .i64 0))]) [(0, (.t 34)), (1, (.t 36)), (2, (.t 37))]))⟩,
       ⟨(some 39), none, (.al (.box (.t 38)))⟩,
       ⟨(some 40), none, (.al (.bldS 1 1 (.ptr none) [(0, (.t 39))]))⟩,
       ⟨(some 41), none, (.ac (.app true 1 8 (.t 33) (.t 40)))⟩,
       ⟨(some 42), none, (.q (.nchk (.t 29)))⟩,
       ⟨(some 43), none, (.q (.fld 0 0 (.t 42)))⟩,
       ⟨none, none, (.ac (.st 1 (.t 43) (.t 41)))⟩] [1, 4, 15, 16, 17])))) (
    .reg [⟨(some 44), none, (.q (.bin .add 3 (.t 17) (.k (.int .i64 1))))⟩,
      ⟨(some 17), none, (.q (.mov (.t 44)))⟩] [1, 4, 15, 16, 17]))))))) (
  .seq (
  .reg [⟨(some 45), none, (.q (.mov (.t 4)))⟩,
    ⟨(some 2), none, (.q (.mov (.t 45)))⟩,
    ⟨(some 3), none, (.q (.mov (.k (.int .i64 0))))⟩] [1, 2, 3]) (
  .ret))))),
  [.tmp 2, .tmp 3], [1]⟩
noncomputable def g33 : HFn Tryz.prog := ⟨r33, fun K => wslow Tryz.prog K r33.code, fun _ _ hK => wslow_fits hK _ (by decide +kernel)⟩
theorem c33 : chkF Tryz.prog Tryz.f33 r33 = true := by decide +kernel

/-- doubletake/seal.New -/
def r34 : RFn := ⟨1,
  .seq (
  .reg [⟨(some 1), none, (.al (.box (.t 0)))⟩,
    ⟨(some 2), none, (.q (.mov .nilp))⟩,
    ⟨(some 3), none, (.q (.mov (.k (.int .i64 0))))⟩] [1]) (
  .seq (
  .seq (
  .reg [⟨(some 4), none, (.rd (.ld true 10 (.t 1)))⟩,
    ⟨(some 5), none, (.ac (.callf 64 [(.t 4)]))⟩,
    ⟨(some 6), none, (.q (.un .not (.t 5)))⟩] [1, 6]) (
  .cond (.t 6) (
   .seq (
   .reg [⟨(some 2), none, (.q (.mov .nilp))⟩,
     ⟨(some 3), none, (.q (.mov (.k (.int .i64 1))))⟩] [1, 2, 3]) (
   .ret)) (
   .skip))) (
  .seq (
  .reg [⟨(some 7), none, (.rd (.ld true 10 (.t 1)))⟩,
    ⟨(some 8), none, (.al (.mkM))⟩,
    ⟨(some 9), none, (.q (.bld (.agg [10, 1, 1] [(.agg [1, 1, 1, 1, 1, 1, 1, 1, 1, 1] [(.sc (.int .i64 0)), (.sc (.int .i64 0)), (.sc (.int .i64 0)), (.sc (.int .i64 0)), (.sc (.int .i64 0)), (.sc (.int .i64 0)), (.sc (.float .f64 0)), (.sc (.float .f64 0)), (.slice none 0), (.slice none 0)]), (.slice none 0), (.map none)]) [(0, (.t 7)), (2, (.t 8))]))⟩,
    ⟨(some 10), none, (.al (.box (.t 9)))⟩,
    ⟨(some 2), none, (.q (.mov (.t 10)))⟩,
    ⟨(some 3), none, (.q (.mov (.k (.int .i64 0))))⟩] [1, 2, 3]) (
  .ret))),
  [.tmp 2, .tmp 3], [1]⟩
noncomputable def g34 : HFn Tryz.prog := ⟨r34, fun K => wslow Tryz.prog K r34.code, fun _ _ hK => wslow_fits hK _ (by decide +kernel)⟩
theorem c34 : chkF Tryz.prog Tryz.f34 r34 = true := by decide +kernel

/-- doubletake/step.First -/
def r35 : RFn := ⟨1,
  .seq (
  .reg [⟨(some 1), none, (.al (.box (.t 0)))⟩,
    ⟨(some 2), none, (.al (.alloc (.agg [1, 1, 192, 8] [(.sc (.int .i64 0)), (.sc (.int .u64 0)), (.arr 12 (List.replicate 16 (.agg [1, 1, 1, 1, 1, 1, 1, 4, 1] [(.sc (.int .i64 0)), (.sc (.int .i64 0)), (.sc (.int .i64 0)), (.sc (.int .i64 0)), (.sc (.int .i64 0)), (.sc (.int .i64 0)), (.sc (.int .i64 0)), (.arr 1 (List.replicate 4 (.sc (.int .i64 0)))), (.sc (.int .i64 0))]))), (.arr 1 (List.replicate 8 (.sc (.int .i64 0))))])))⟩] [1, 2, 3]) (
  .seq (
  .seq (
  .reg [⟨(some 5), none, (.rd (.ld true 10 (.t 1)))⟩,
    ⟨(some 6), none, (.ac (.callf 64 [(.t 5)]))⟩,
    ⟨(some 7), none, (.q (.un .not (.t 6)))⟩] [1, 2, 3, 7]) (
  .cond (.t 7) (
   .seq (
   .reg [⟨(some 8), none, (.q (.bld (.agg [1, 1, 192, 8] [(.sc (.int .i64 0)), (.sc (.int .u64 0)), (.arr 12 (List.replicate 16 (.agg [1, 1, 1, 1, 1, 1, 1, 4, 1] [(.sc (.int .i64 0)), (.sc (.int .i64 0)), (.sc (.int .i64 0)), (.sc (.int .i64 0)), (.sc (.int .i64 0)), (.sc (.int .i64 0)), (.sc (.int .i64 0)), (.arr 1 (List.replicate 4 (.sc (.int .i64 0)))), (.sc (.int .i64 0))]))), (.arr 1 (List.replicate 8 (.sc (.int .i64 0))))]) []))⟩,
     ⟨none, none, (.ac (.st 202 (.t 2) (.t 8)))⟩] [1, 2, 3]) (
   .ret)) (
   .skip))) (
  .seq (
  .reg [⟨(some 9), none, (.q (.fld 5 5 (.t 1)))⟩,
    ⟨(some 10), none, (.rd (.ld false 1 (.t 9)))⟩,
    ⟨(some 11), none, (.ac (.callf 66 [(.t 10)]))⟩,
    ⟨(some 12), none, (.q (.bld (.agg [1, 1, 192, 8] [(.sc (.int .i64 0)), (.sc (.int .u64 0)), (.arr 12 (List.replicate 16 (.agg [1, 1, 1, 1, 1, 1, 1, 4, 1] [(.sc (.int .i64 0)), (.sc (.int .i64 0)), (.sc (.int .i64 0)), (.sc (.int .i64 0)), (.sc (.int .i64 0)), (.sc (.int .i64 0)), (.sc (.int .i64 0)), (.arr 1 (List.replicate 4 (.sc (.int .i64 0)))), (.sc (.int .i64 0))]))), (.arr 1 (List.replicate 8 (.sc (.int .i64 0))))]) [(1, (.t 11))]))⟩,
    ⟨(some 3), none, (.al (.alloc (.agg [1, 1, 192, 8] [(.sc (.int .i64 0)), (.sc (.int .u64 0)), (.arr 12 (List.replicate 16 (.agg [1, 1, 1, 1, 1, 1, 1, 4, 1] [(.sc (.int .i64 0)), (.sc (.int .i64 0)), (.sc (.int .i64 0)), (.sc (.int .i64 0)), (.sc (.int .i64 0)), (.sc (.int .i64 0)), (.sc (.int .i64 0)), (.arr 1 (List.replicate 4 (.sc (.int .i64 0)))), (.sc (.int .i64 0))]))), (.arr 1 (List.replicate 8 (.sc (.int .i64 0))))])))⟩,
    ⟨none, none, (.ac (.st 202 (.t 3) (.t 12)))⟩] [1, 2, 3]) (
  .seq (
  .seq (
  .reg [⟨(some 13), none, (.q (.fld 0 0 (.t 1)))⟩,
    ⟨(some 14), none, (.rd (.ld false 1 (.t 13)))⟩,
    ⟨(some 15), none, (.q (.mov (.k (.int .i64 0))))⟩] [1, 2, 3, 14, 15]) (
  .block 0 (
   .loop [1, 2, 3, 14, 15] (
    .seq (
    .reg [⟨(some 16), none, (.q (.bin .lss 3 (.t 15) (.t 14)))⟩] [1, 2, 3, 14, 15, 16]) (
    .seq (
    .cond (.t 16) (
     .skip) (
     .exit 0)) (
    .seq (
    .block 1 (
     .seq (
     .reg [⟨(some 17), none, (.q (.mov (.t 15)))⟩,
       ⟨(some 4), none, (.q (.mov (.t 17)))⟩] [1, 2, 3, 4, 14, 15]) (
     .reg [⟨(some 18), none, (.q (.mov (.t 4)))⟩,
       ⟨(some 19), none, (.q (.mov (.t 4)))⟩,
       ⟨(some 20), none, (.q (.fld 0 0 (.t 1)))⟩,
       ⟨(some 21), none, (.rd (.ld false 1 (.t 20)))⟩,
       ⟨(some 22), none, (.ac (.callf 67 [(.t 19), (.t 21)]))⟩,
       ⟨(some 23), none, (.q (.fld 2 2 (.t 3)))⟩,
       ⟨(some 24), none, (.q (.ixa 16 12 (.t 23) (.t 18)))⟩,
       ⟨none, none, (.ac (.st 12 (.t 24) (.t 22)))⟩] [1, 2, 3, 14, 15]))) (
    .reg [⟨(some 25), none, (.q (.bin .add 3 (.t 15) (.k (.int .i64 1))))⟩,
      ⟨(some 15), none, (.q (.mov (.t 25)))⟩] [1, 2, 3, 14, 15]))))))) (
  .seq (
  .reg [⟨(some 26), none, (.rd (.ld true 202 (.t 3)))⟩,
    ⟨none, none, (.ac (.st 202 (.t 2) (.t 26)))⟩] [1, 2, 3]) (
  .ret))))),
  [.cell 2 true 202], [1, 2, 3]⟩
noncomputable def g35 : HFn Tryz.prog := ⟨r35, fun K => wslow Tryz.prog K r35.code, fun _ _ hK => wslow_fits hK _ (by decide +kernel)⟩
theorem c35 : chkF Tryz.prog Tryz.f35 r35 = true := by decide +kernel

/-- doubletake/state.Mark -/
def r36 : RFn := ⟨2,
  .seq (
  .reg [⟨(some 2), none, (.al (.box (.t 0)))⟩,
    ⟨(some 3), none, (.al (.box (.t 1)))⟩,
    ⟨(some 4), none, (.q (.mov (.k (.int .i64 0))))⟩] [2, 3]) (
  .seq (
  .reg [⟨(some 8), none, (.rd (.ld true 10 (.t 2)))⟩,
    ⟨(some 9), none, (.rd (.ld true 202 (.t 3)))⟩,
    ⟨(some 10), none, (.ac (.callf 68 [(.t 8), (.t 9)]))⟩,
    ⟨(some 7), none, (.q (.mov (.t 10)))⟩,
    ⟨(some 11), none, (.q (.ext 0 (.t 7)))⟩,
    ⟨(some 12), none, (.q (.ext 1 (.t 7)))⟩,
    ⟨(some 5), none, (.q (.mov (.t 11)))⟩,
    ⟨(some 6), none, (.q (.mov (.t 12)))⟩] [2, 3, 5, 6]) (
  .seq (
  .seq (
  .reg [⟨(some 13), none, (.q (.mov (.t 6)))⟩,
    ⟨(some 14), none, (.q (.bin .neq 23 (.t 13) (.k (.int .i64 0))))⟩] [2, 3, 5, 14]) (
  .cond (.t 14) (
   .seq (
   .reg [⟨(some 4), none, (.q (.mov (.k (.int .i64 0))))⟩] [2, 3, 4]) (
   .ret)) (
   .skip))) (
  .seq (
  .reg [⟨(some 15), none, (.q (.mov (.t 5)))⟩,
    ⟨(some 16), none, (.ac (.callf 69 [(.t 15)]))⟩,
    ⟨(some 4), none, (.q (.mov (.t 16)))⟩] [2, 3, 4]) (
  .ret)))),
  [.tmp 4], [2, 3]⟩
noncomputable def g36 : HFn Tryz.prog := ⟨r36, fun K => wslow Tryz.prog K r36.code, fun _ _ hK => wslow_fits hK _ (by decide +kernel)⟩
theorem c36 : chkF Tryz.prog Tryz.f36 r36 = true := by decide +kernel

/-- (*doubletake/gate.Gate).Admit -/
def r37 : RFn := ⟨4,
  .seq (
  .reg [⟨(some 8), none, (.al (.alloc (.agg [1, 1, 1, 1, 1, 1, 1, 1, 1, 1, 1, 1, 1] [(.sc (.int .i64 0)), (.sc (.int .i64 0)), (.sc (.int .i64 0)), (.sc (.int .i64 0)), (.sc (.bool false)), (.sc (.int .u64 0)), (.sc (.int .i64 0)), (.sc (.int .i64 0)), (.slice none 0), (.sc (.int .i64 0)), (.slice none 0), (.sc (.int .i64 0)), (.sc (.int .i64 0))])))⟩,
    ⟨(some 9), none, (.q (.mov (.k (.int .i64 0))))⟩] [0, 1, 2, 3, 8]) (
  .seq (
  .reg [⟨(some 13), none, (.q (.mov (.t 0)))⟩,
    ⟨(some 14), none, (.q (.mov (.t 1)))⟩,
    ⟨(some 15), none, (.q (.mov (.t 2)))⟩,
    ⟨(some 16), none, (.q (.mov (.t 3)))⟩,
    ⟨(some 17), none, (.ac (.callf 70 [(.t 13), (.t 14), (.t 15), (.t 16)]))⟩,
    ⟨(some 12), none, (.q (.mov (.t 17)))⟩,
    ⟨(some 18), none, (.q (.ext 0 (.t 12)))⟩,
    ⟨(some 19), none, (.q (.ext 1 (.t 12)))⟩,
    ⟨(some 10), none, (.al (.alloc (.agg [1, 1, 1, 1, 1, 1, 1, 1, 1, 1, 1, 1, 1] [(.sc (.int .i64 0)), (.sc (.int .i64 0)), (.sc (.int .i64 0)), (.sc (.int .i64 0)), (.sc (.bool false)), (.sc (.int .u64 0)), (.sc (.int .i64 0)), (.sc (.int .i64 0)), (.slice none 0), (.sc (.int .i64 0)), (.slice none 0), (.sc (.int .i64 0)), (.sc (.int .i64 0))])))⟩,
    ⟨none, none, (.ac (.st 13 (.t 10) (.t 18)))⟩,
    ⟨(some 11), none, (.q (.mov (.t 19)))⟩] [0, 8, 10, 11]) (
  .seq (
  .draw [(0, ⟨(some 20), none, (.q (.mov (.t 0)))⟩, 0),
    (1, ⟨(some 21), none, (.q (.mov (.t 11)))⟩, 0),
    (2, ⟨(some 22), none, (.q (.nchk (.t 20)))⟩, 0),
    (3, ⟨(some 23), none, (.q (.fld 1 1 (.t 22)))⟩, 0),
    (4, ⟨(some 24), none, (.q (.ixa 6 1 (.t 23) (.t 21)))⟩, 0),
    (5, ⟨(some 25), none, (.rd (.ld false 1 (.t 24)))⟩, 0),
    (6, ⟨(some 26), none, (.q (.bin .add 3 (.t 25) (.k (.int .i64 1))))⟩, 0),
    (7, ⟨(some 27), none, (.q (.nchk (.t 20)))⟩, 0),
    (8, ⟨(some 28), none, (.q (.fld 1 1 (.t 27)))⟩, 0),
    (9, ⟨(some 29), none, (.q (.ixa 6 1 (.t 28) (.t 21)))⟩, 0),
    (10, ⟨none, none, (.ac (.st 1 (.t 29) (.t 26)))⟩, 0)] [8, 10, 11]) (
  .seq (
  .reg [⟨(some 30), none, (.rd (.ld true 13 (.t 10)))⟩,
    ⟨(some 31), none, (.q (.mov (.t 11)))⟩,
    ⟨none, none, (.ac (.st 13 (.t 8) (.t 30)))⟩,
    ⟨(some 9), none, (.q (.mov (.t 31)))⟩] [8, 9, 10]) (
  .ret)))),
  [.cell 8 true 13, .tmp 9], [8, 10]⟩
noncomputable def g37 : HFn Tryz.prog := ⟨r37, fun K => wslow Tryz.prog K r37.code, fun _ _ hK => wslow_fits hK _ (by decide +kernel)⟩
theorem c37 : chkF Tryz.prog Tryz.f37 r37 = true := by decide +kernel

/-- doubletake/server.clipped -/
def r38 : RFn := ⟨1,
  .seq (
  .reg [⟨(some 2), none, (.q (.mov (.k (.int .i64 0))))⟩] [0]) (
  .seq (
  .reg [⟨(some 3), none, (.q (.mov (.t 0)))⟩,
    ⟨(some 4), none, (.q (.mm false [(.t 3), (.k (.int .i64 1000000))]))⟩,
    ⟨(some 5), none, (.q (.mm true [(.k (.int .i64 0)), (.t 4)]))⟩,
    ⟨(some 2), none, (.q (.mov (.t 5)))⟩] [2]) (
  .ret)),
  [.tmp 2], []⟩
noncomputable def g38 : HFn Tryz.prog := ⟨r38, fun K => wslow Tryz.prog K r38.code, fun _ _ hK => wslow_fits hK _ (by decide +kernel)⟩
theorem c38 : chkF Tryz.prog Tryz.f38 r38 = true := by decide +kernel

/-- (*doubletake/server.Server).inputs -/
def r39 : RFn := ⟨2,
  .seq (
  .reg [⟨(some 3), none, (.al (.box (.t 1)))⟩] [0, 3]) (
  .seq (
  .draw [(0, ⟨(some 7), none, (.q (.mov (.t 0)))⟩, 0),
    (1, ⟨(some 8), none, (.q (.nchk (.t 7)))⟩, 0),
    (2, ⟨(some 9), none, (.q (.fld 5 215 (.t 8)))⟩, 0),
    (3, ⟨(some 10), none, (.rd (.ld false 1 (.t 9)))⟩, 0),
    (4, ⟨(some 11), none, (.q (.fld 1 1 (.t 3)))⟩, 0),
    (5, ⟨(some 12), none, (.rd (.ld false 1 (.t 11)))⟩, 0),
    (6, ⟨(some 13), none, (.q (.ixs 3 (.t 10) (.t 12)))⟩, 0),
    (7, ⟨(some 4), none, (.q (.mov (.t 13)))⟩, 0)] [0, 3, 4]) (
  .seq (
  .draw [(4, ⟨(some 18), none, (.q (.mov (.t 0)))⟩, 0),
    (5, ⟨(some 19), none, (.q (.nchk (.t 18)))⟩, 0),
    (6, ⟨(some 20), none, (.q (.fld 2 11 (.t 19)))⟩, 0),
    (7, ⟨(some 21), none, (.rd (.ld false 1 (.t 20)))⟩, 0),
    (8, ⟨(some 22), none, (.ac (.callf 71 [(.t 21)]))⟩, 0),
    (0, ⟨(some 14), none, (.q (.mov (.t 4)))⟩, 1),
    (10, ⟨(some 24), none, (.q (.nchk (.t 14)))⟩, 0),
    (11, ⟨(some 25), none, (.q (.fld 0 0 (.t 24)))⟩, 0),
    (12, ⟨none, none, (.ac (.st 1 (.t 25) (.k (.bool true))))⟩, 0),
    (1, ⟨(some 15), none, (.q (.mov (.t 4)))⟩, 2),
    (2, ⟨(some 16), none, (.q (.fld 6 6 (.t 3)))⟩, 2),
    (3, ⟨(some 17), none, (.rd (.ld false 1 (.t 16)))⟩, 2),
    (9, ⟨(some 23), none, (.q (.mm false [(.t 17), (.t 22)]))⟩, 1),
    (13, ⟨(some 26), none, (.q (.nchk (.t 15)))⟩, 0),
    (14, ⟨(some 27), none, (.q (.fld 2 2 (.t 26)))⟩, 0),
    (15, ⟨none, none, (.ac (.st 1 (.t 27) (.t 23)))⟩, 0)] [0, 3]) (
  .seq (
  .reg [⟨(some 28), none, (.q (.fld 8 8 (.t 3)))⟩,
    ⟨(some 29), none, (.rd (.ld false 1 (.t 28)))⟩,
    ⟨(some 30), none, (.q (.len false (.t 29)))⟩,
    ⟨(some 31), none, (.q (.mov (.k (.int .i64 0))))⟩] [0, 3, 29, 30, 31]) (
  .block 0 (
   .loop [0, 3, 29, 30, 31] (
    .free [6] (
    .seq (
    .reg [⟨(some 32), none, (.q (.bin .lss 3 (.t 31) (.t 30)))⟩] [0, 3, 6, 29, 30, 31, 32]) (
    .seq (
    .cond (.t 32) (
     .skip) (
     .exit 0)) (
    .seq (
    .block 1 (
     .seq (
     .reg [⟨(some 33), none, (.q (.mov (.t 31)))⟩,
       ⟨(some 34), none, (.q (.ixs 3 (.t 29) (.t 31)))⟩,
       ⟨(some 35), none, (.rd (.ld true 3 (.t 34)))⟩,
       ⟨(some 6), none, (.al (.alloc (.agg [1, 1, 1] [(.sc (.int .i64 0)), (.sc (.int .i64 0)), (.sc (.int .i64 0))])))⟩,
       ⟨(some 5), none, (.q (.mov (.t 33)))⟩,
       ⟨none, none, (.ac (.st 3 (.t 6) (.t 35)))⟩] [0, 3, 5, 6, 29, 30, 31]) (
     .draw [(1, ⟨(some 37), none, (.q (.mov (.t 0)))⟩, 0),
       (2, ⟨(some 38), none, (.q (.nchk (.t 37)))⟩, 0),
       (3, ⟨(some 39), none, (.q (.fld 2 11 (.t 38)))⟩, 0),
       (4, ⟨(some 40), none, (.rd (.ld false 1 (.t 39)))⟩, 0),
       (5, ⟨(some 41), none, (.q (.fld 1 1 (.t 3)))⟩, 0),
       (6, ⟨(some 42), none, (.rd (.ld false 1 (.t 41)))⟩, 0),
       (7, ⟨(some 43), none, (.q (.fld 7 7 (.t 3)))⟩, 0),
       (8, ⟨(some 44), none, (.rd (.ld false 1 (.t 43)))⟩, 0),
       (9, ⟨(some 45), none, (.q (.mov (.t 5)))⟩, 0),
       (10, ⟨(some 46), none, (.q (.bin .add 3 (.t 44) (.t 45)))⟩, 0),
       (11, ⟨(some 47), none, (.rd (.ld true 3 (.t 6)))⟩, 0),
       (12, ⟨(some 48), none, (.ac (.callf 72 [(.t 40), (.t 42), (.t 46), (.t 47)]))⟩, 0),
       (0, ⟨(some 36), none, (.q (.mov (.t 0)))⟩, 1),
       (13, ⟨(some 49), none, (.q (.nchk (.t 36)))⟩, 1),
       (14, ⟨(some 50), none, (.q (.fld 6 216 (.t 49)))⟩, 1),
       (15, ⟨(some 51), none, (.q (.ixa 6 1 (.t 50) (.t 48)))⟩, 0),
       (16, ⟨(some 52), none, (.rd (.ld false 1 (.t 51)))⟩, 0),
       (17, ⟨(some 53), none, (.q (.bin .add 3 (.t 52) (.k (.int .i64 1))))⟩, 0),
       (18, ⟨(some 54), none, (.q (.nchk (.t 36)))⟩, 1),
       (19, ⟨(some 55), none, (.q (.fld 6 216 (.t 54)))⟩, 1),
       (20, ⟨(some 56), none, (.q (.ixa 6 1 (.t 55) (.t 48)))⟩, 0),
       (21, ⟨none, none, (.ac (.st 1 (.t 56) (.t 53)))⟩, 0)] [0, 3, 6, 29, 30, 31]))) (
    .reg [⟨(some 57), none, (.q (.bin .add 3 (.t 31) (.k (.int .i64 1))))⟩,
      ⟨(some 31), none, (.q (.mov (.t 57)))⟩] [0, 3, 6, 29, 30, 31])))))))))),
  [], [3, 6]⟩
noncomputable def g39 : HFn Tryz.prog := ⟨r39, fun K => wslow Tryz.prog K r39.code, fun _ _ hK => wslow_fits hK _ (by decide +kernel)⟩
theorem c39 : chkF Tryz.prog Tryz.f39 r39 = true := by decide +kernel

/-- (*doubletake/server.Server).report -/
def r40 : RFn := ⟨2,
  .seq (
  .reg [⟨(some 3), none, (.al (.box (.t 1)))⟩] [0, 3]) (
  .seq (
  .draw [(0, ⟨(some 5), none, (.q (.mov (.t 0)))⟩, 0),
    (1, ⟨(some 6), none, (.q (.nchk (.t 5)))⟩, 0),
    (2, ⟨(some 7), none, (.q (.fld 5 215 (.t 6)))⟩, 0),
    (3, ⟨(some 8), none, (.rd (.ld false 1 (.t 7)))⟩, 0),
    (4, ⟨(some 9), none, (.q (.fld 1 1 (.t 3)))⟩, 0),
    (5, ⟨(some 10), none, (.rd (.ld false 1 (.t 9)))⟩, 0),
    (6, ⟨(some 11), none, (.q (.ixs 3 (.t 8) (.t 10)))⟩, 0),
    (7, ⟨(some 4), none, (.q (.mov (.t 11)))⟩, 0)] [0, 3, 4]) (
  .seq (
  .reg [⟨(some 12), none, (.q (.mov (.t 4)))⟩,
    ⟨(some 13), none, (.q (.nchk (.t 12)))⟩,
    ⟨(some 14), none, (.q (.fld 0 0 (.t 13)))⟩,
    ⟨none, none, (.ac (.st 1 (.t 14) (.k (.bool true))))⟩] [0, 3, 4]) (
  .seq (
  .draw [(0, ⟨(some 15), none, (.q (.fld 11 11 (.t 3)))⟩, 0),
    (1, ⟨(some 16), none, (.rd (.ld false 1 (.t 15)))⟩, 0),
    (2, ⟨(some 17), none, (.q (.mov (.t 0)))⟩, 0),
    (3, ⟨(some 18), none, (.q (.nchk (.t 17)))⟩, 0),
    (4, ⟨(some 19), none, (.q (.fld 4 214 (.t 18)))⟩, 0),
    (5, ⟨(some 20), none, (.rd (.ld false 1 (.t 19)))⟩, 0),
    (6, ⟨(some 21), none, (.q (.len false (.t 20)))⟩, 0),
    (7, ⟨(some 22), none, (.q (.bin .lss 3 (.t 16) (.t 21)))⟩, 0),
    (8, ⟨(some 23), none, (.q (.mov (.t 22)))⟩, 0),
    (9, ⟨(some 24), (some (23, true)), (.q (.mov (.t 0)))⟩, 0),
    (10, ⟨(some 25), (some (23, true)), (.q (.nchk (.t 24)))⟩, 0),
    (11, ⟨(some 26), (some (23, true)), (.q (.fld 4 214 (.t 25)))⟩, 0),
    (12, ⟨(some 27), (some (23, true)), (.rd (.ld false 1 (.t 26)))⟩, 0),
    (13, ⟨(some 28), (some (23, true)), (.q (.fld 11 11 (.t 3)))⟩, 0),
    (14, ⟨(some 29), (some (23, true)), (.rd (.ld false 1 (.t 28)))⟩, 0),
    (15, ⟨(some 30), (some (23, true)), (.q (.ixs 1 (.t 27) (.t 29)))⟩, 0),
    (16, ⟨(some 31), (some (23, true)), (.rd (.ld false 1 (.t 30)))⟩, 0),
    (17, ⟨(some 32), (some (23, true)), (.q (.fld 12 12 (.t 3)))⟩, 0),
    (18, ⟨(some 33), (some (23, true)), (.rd (.ld false 1 (.t 32)))⟩, 0),
    (19, ⟨(some 34), (some (23, true)), (.q (.bin .neq 3 (.t 31) (.t 33)))⟩, 0),
    (20, ⟨(some 35), none, (.q (.pick (.t 23) (.t 34) (.k (.bool false))))⟩, 0)] [3, 4, 35]) (
  .cond (.t 35) (
   .reg [⟨(some 36), none, (.q (.mov (.t 4)))⟩,
     ⟨(some 37), none, (.q (.nchk (.t 36)))⟩,
     ⟨(some 38), none, (.q (.fld 1 1 (.t 37)))⟩,
     ⟨none, none, (.ac (.st 1 (.t 38) (.k (.bool true))))⟩] [3]) (
   .skip))))),
  [], [3]⟩
noncomputable def g40 : HFn Tryz.prog := ⟨r40, fun K => wslow Tryz.prog K r40.code, fun _ _ hK => wslow_fits hK _ (by decide +kernel)⟩
theorem c40 : chkF Tryz.prog Tryz.f40 r40 = true := by decide +kernel

/-- (*doubletake/server.Server).seal -/
def r41 : RFn := ⟨2,
  .seq (
  .reg [⟨(some 7), none, (.q (.mov (.t 0)))⟩,
    ⟨(some 8), none, (.q (.nchk (.t 7)))⟩,
    ⟨(some 9), none, (.q (.fld 2 11 (.t 8)))⟩,
    ⟨(some 10), none, (.rd (.ld false 1 (.t 9)))⟩,
    ⟨(some 11), none, (.ac (.callf 71 [(.t 10)]))⟩,
    ⟨(some 4), none, (.q (.mov (.t 11)))⟩] [0, 1, 4]) (
  .seq (
  .reg [⟨(some 12), none, (.q (.mov (.t 0)))⟩,
    ⟨(some 13), none, (.q (.nchk (.t 12)))⟩,
    ⟨(some 14), none, (.q (.fld 2 11 (.t 13)))⟩,
    ⟨(some 15), none, (.rd (.ld false 1 (.t 14)))⟩,
    ⟨(some 16), none, (.q (.mov (.t 1)))⟩,
    ⟨(some 17), none, (.ac (.callf 73 [(.t 15), (.t 16)]))⟩] [0, 4]) (
  .seq (
  .reg [⟨(some 18), none, (.q (.mov (.t 0)))⟩,
    ⟨(some 19), none, (.q (.nchk (.t 18)))⟩,
    ⟨(some 20), none, (.q (.fld 2 11 (.t 19)))⟩,
    ⟨(some 21), none, (.rd (.ld false 1 (.t 20)))⟩,
    ⟨(some 22), none, (.q (.mov (.t 4)))⟩,
    ⟨(some 23), none, (.ac (.callf 51 [(.t 21), (.t 22), (.k (.int .i64 600))]))⟩,
    ⟨(some 24), none, (.q (.len false (.t 23)))⟩,
    ⟨(some 25), none, (.q (.mov (.k (.int .i64 0))))⟩] [0, 23, 24, 25]) (
  .block 0 (
   .loop [0, 23, 24, 25] (
    .seq (
    .reg [⟨(some 26), none, (.q (.bin .lss 3 (.t 25) (.t 24)))⟩] [0, 23, 24, 25, 26]) (
    .seq (
    .cond (.t 26) (
     .skip) (
     .exit 0)) (
    .seq (
    .block 1 (
     .seq (
     .reg [⟨(some 27), none, (.q (.ixs 1 (.t 23) (.t 25)))⟩,
       ⟨(some 28), none, (.rd (.ld false 1 (.t 27)))⟩,
       ⟨(some 6), none, (.q (.mov (.t 28)))⟩] [0, 6, 23, 24, 25]) (
     .seq (
     .draw [(1, ⟨(some 30), none, (.q (.mov (.t 0)))⟩, 0),
       (2, ⟨(some 31), none, (.q (.nchk (.t 30)))⟩, 0),
       (3, ⟨(some 32), none, (.q (.fld 0 0 (.t 31)))⟩, 0),
       (4, ⟨(some 33), none, (.rd (.ld true 10 (.t 32)))⟩, 0),
       (5, ⟨(some 34), none, (.q (.mov (.t 0)))⟩, 0),
       (6, ⟨(some 35), none, (.q (.nchk (.t 34)))⟩, 0),
       (7, ⟨(some 36), none, (.q (.fld 3 12 (.t 35)))⟩, 0),
       (8, ⟨(some 37), none, (.rd (.ld true 202 (.t 36)))⟩, 0),
       (9, ⟨(some 38), none, (.q (.mov (.t 6)))⟩, 0),
       (10, ⟨(some 39), none, (.ac (.callf 74 [(.t 33), (.t 37), (.t 38)]))⟩, 0),
       (0, ⟨(some 29), none, (.q (.mov (.t 0)))⟩, 1),
       (11, ⟨(some 40), none, (.q (.nchk (.t 29)))⟩, 0),
       (12, ⟨(some 41), none, (.q (.fld 3 12 (.t 40)))⟩, 0),
       (13, ⟨none, none, (.ac (.st 202 (.t 41) (.t 39)))⟩, 0)] [0, 23, 24, 25]) (
     .draw [(5, ⟨(some 47), none, (.q (.mov (.t 0)))⟩, 0),
       (6, ⟨(some 48), none, (.q (.nchk (.t 47)))⟩, 0),
       (7, ⟨(some 49), none, (.q (.fld 0 0 (.t 48)))⟩, 0),
       (8, ⟨(some 50), none, (.rd (.ld true 10 (.t 49)))⟩, 0),
       (9, ⟨(some 51), none, (.q (.mov (.t 0)))⟩, 0),
       (10, ⟨(some 52), none, (.q (.nchk (.t 51)))⟩, 0),
       (11, ⟨(some 53), none, (.q (.fld 3 12 (.t 52)))⟩, 0),
       (12, ⟨(some 54), none, (.rd (.ld true 202 (.t 53)))⟩, 0),
       (13, ⟨(some 55), none, (.ac (.callf 36 [(.t 50), (.t 54)]))⟩, 0),
       (1, ⟨(some 43), none, (.q (.mov (.t 0)))⟩, 1),
       (2, ⟨(some 44), none, (.q (.nchk (.t 43)))⟩, 1),
       (3, ⟨(some 45), none, (.q (.fld 4 214 (.t 44)))⟩, 1),
       (4, ⟨(some 46), none, (.rd (.ld false 1 (.t 45)))⟩, 1),
       (14, ⟨(some 56), none, (.al (.bldS 1 1 (.sc (.int .i64 0)) [(0, (.t 55))]))⟩, 0),
       (15, ⟨(some 57), none, (.ac (.app true 1 8 (.t 46) (.t 56)))⟩, 0),
       (0, ⟨(some 42), none, (.q (.mov (.t 0)))⟩, 2),
       (16, ⟨(some 58), none, (.q (.nchk (.t 42)))⟩, 0),
       (17, ⟨(some 59), none, (.q (.fld 4 214 (.t 58)))⟩, 0),
       (18, ⟨none, none, (.ac (.st 1 (.t 59) (.t 57)))⟩, 0)] [0, 23, 24, 25])))) (
    .reg [⟨(some 60), none, (.q (.bin .add 3 (.t 25) (.k (.int .i64 1))))⟩,
      ⟨(some 25), none, (.q (.mov (.t 60)))⟩] [0, 23, 24, 25])))))))),
  [], []⟩
noncomputable def g41 : HFn Tryz.prog := ⟨r41, fun K => wslow Tryz.prog K r41.code, fun _ _ hK => wslow_fits hK _ (by decide +kernel)⟩
theorem c41 : chkF Tryz.prog Tryz.f41 r41 = true := by decide +kernel

/-- (*doubletake/gate.Gate).Joined -/
def r42 : RFn := ⟨2,
  .seq (
  .reg [⟨(some 4), none, (.q (.mov (.k (.bool false))))⟩] [0, 1]) (
  .seq (
  .reg [⟨(some 6), none, (.q (.mov (.t 0)))⟩,
    ⟨(some 7), none, (.q (.mov (.t 1)))⟩,
    ⟨(some 8), none, (.ac (.callf 75 [(.t 6), (.t 7)]))⟩,
    ⟨(some 5), none, (.q (.mov (.t 8)))⟩] [5]) (
  .seq (
  .reg [⟨(some 9), none, (.q (.mov (.t 5)))⟩,
    ⟨(some 10), none, (.q (.nil 0 true (.t 9)))⟩,
    ⟨(some 11), none, (.q (.mov (.t 10)))⟩,
    ⟨(some 12), (some (11, true)), (.q (.mov (.t 5)))⟩,
    ⟨(some 13), (some (11, true)), (.q (.nchk (.t 12)))⟩,
    ⟨(some 14), (some (11, true)), (.q (.fld 3 3 (.t 13)))⟩,
    ⟨(some 15), (some (11, true)), (.rd (.ld false 1 (.t 14)))⟩,
    ⟨(some 16), none, (.q (.pick (.t 11) (.t 15) (.k (.bool false))))⟩,
    ⟨(some 4), none, (.q (.mov (.t 16)))⟩] [4]) (
  .ret))),
  [.tmp 4], []⟩
noncomputable def g42 : HFn Tryz.prog := ⟨r42, fun K => wslow Tryz.prog K r42.code, fun _ _ hK => wslow_fits hK _ (by decide +kernel)⟩
theorem c42 : chkF Tryz.prog Tryz.f42 r42 = true := by decide +kernel

/-- (*doubletake/gate.Gate).Send -/
def r43 : RFn := ⟨4,
  .seq (
  .reg [⟨(some 6), none, (.al (.box (.t 2)))⟩,
    ⟨(some 8), none, (.q (.mov .nils))⟩,
    ⟨(some 9), none, (.q (.mov (.k (.bool false))))⟩] [0, 1, 3, 6]) (
  .seq (
  .reg [⟨(some 13), none, (.q (.mov (.t 0)))⟩,
    ⟨(some 14), none, (.q (.mov (.t 1)))⟩,
    ⟨(some 15), none, (.ac (.callf 75 [(.t 13), (.t 14)]))⟩,
    ⟨(some 10), none, (.q (.mov (.t 15)))⟩] [1, 3, 6, 10]) (
  .seq (
  .seq (
  .reg [⟨(some 16), none, (.q (.mov (.t 10)))⟩,
    ⟨(some 17), none, (.q (.nil 0 false (.t 16)))⟩] [1, 3, 6, 10, 17]) (
  .cond (.t 17) (
   .seq (
   .reg [⟨(some 8), none, (.q (.mov .nils))⟩,
     ⟨(some 9), none, (.q (.mov (.k (.bool false))))⟩] [6, 8, 9]) (
   .ret)) (
   .skip))) (
  .seq (
  .reg [⟨(some 18), none, (.q (.mov (.t 1)))⟩,
    ⟨(some 19), none, (.q (.fld 1 1 (.t 6)))⟩,
    ⟨none, none, (.ac (.st 1 (.t 19) (.t 18)))⟩,
    ⟨(some 20), none, (.q (.fld 2 2 (.t 6)))⟩,
    ⟨none, none, (.ac (.st 1 (.t 20) (.k (.int .i64 0))))⟩,
    ⟨(some 21), none, (.q (.fld 3 3 (.t 6)))⟩,
    ⟨none, none, (.ac (.st 1 (.t 21) (.k (.int .i64 0))))⟩,
    ⟨(some 22), none, (.q (.fld 4 4 (.t 6)))⟩,
    ⟨none, none, (.ac (.st 1 (.t 22) (.k (.bool false))))⟩,
    ⟨(some 23), none, (.q (.fld 5 5 (.t 6)))⟩,
    ⟨none, none, (.ac (.st 1 (.t 23) (.k (.int .u64 0))))⟩] [3, 6, 10]) (
  .seq (
  .seq (
  .reg [⟨(some 24), none, (.rd (.ld true 13 (.t 6)))⟩,
    ⟨(some 25), none, (.ac (.callf 76 [(.t 24)]))⟩,
    ⟨(some 26), none, (.q (.un .not (.t 25)))⟩] [3, 6, 10, 26]) (
  .cond (.t 26) (
   .seq (
   .reg [⟨(some 8), none, (.q (.mov .nils))⟩,
     ⟨(some 9), none, (.q (.mov (.k (.bool false))))⟩] [6, 8, 9]) (
   .ret)) (
   .skip))) (
  .seq (
  .draw [(4, ⟨(some 32), none, (.q (.mov (.t 10)))⟩, 0),
    (5, ⟨(some 33), none, (.q (.nchk (.t 32)))⟩, 0),
    (6, ⟨(some 34), none, (.q (.fld 1 1 (.t 33)))⟩, 0),
    (7, ⟨(some 35), none, (.rd (.ld false 1 (.t 34)))⟩, 0),
    (8, ⟨(some 36), none, (.rd (.ld true 13 (.t 6)))⟩, 0),
    (9, ⟨(some 37), none, (.q (.mov (.t 3)))⟩, 0),
    (10, ⟨(some 38), none, (.ac (.callf 78 [(.t 35), (.t 36), (.t 37)]))⟩, 0),
    (0, ⟨(some 28), none, (.q (.mov (.t 10)))⟩, 1),
    (1, ⟨(some 29), none, (.q (.nchk (.t 28)))⟩, 1),
    (2, ⟨(some 30), none, (.q (.fld 0 0 (.t 29)))⟩, 1),
    (3, ⟨(some 31), none, (.rd (.ld false 1 (.t 30)))⟩, 1),
    (11, ⟨(some 39), none, (.ac (.callf 77 [(.t 31), (.t 38)]))⟩, 0),
    (12, ⟨(some 27), none, (.q (.mov (.t 39)))⟩, 0),
    (13, ⟨(some 40), none, (.q (.ext 0 (.t 27)))⟩, 0),
    (14, ⟨(some 41), none, (.q (.ext 1 (.t 27)))⟩, 0),
    (15, ⟨(some 11), none, (.q (.mov (.t 40)))⟩, 0),
    (16, ⟨(some 12), none, (.q (.mov (.t 41)))⟩, 0)] [6, 11, 12]) (
  .seq (
  .reg [⟨(some 42), none, (.q (.mov (.t 11)))⟩,
    ⟨(some 43), none, (.q (.mov (.t 12)))⟩,
    ⟨(some 44), none, (.q (.bin .eql 23 (.t 43) (.k (.int .i64 0))))⟩,
    ⟨(some 8), none, (.q (.mov (.t 42)))⟩,
    ⟨(some 9), none, (.q (.mov (.t 44)))⟩] [6, 8, 9]) (
  .ret))))))),
  [.tmp 8, .tmp 9], [6]⟩
noncomputable def g43 : HFn Tryz.prog := ⟨r43, fun K => wslow Tryz.prog K r43.code, fun _ _ hK => wslow_fits hK _ (by decide +kernel)⟩
theorem c43 : chkF Tryz.prog Tryz.f43 r43 = true := by decide +kernel

/-- (*doubletake/server.Server).word -/
def r44 : RFn := ⟨2,
  .seq (
  .reg [⟨(some 4), none, (.al (.alloc (.agg [1, 1, 1, 1, 1, 1, 1, 1, 1, 1, 1, 1, 1] [(.sc (.int .i64 0)), (.sc (.int .i64 0)), (.sc (.int .i64 0)), (.sc (.int .i64 0)), (.sc (.bool false)), (.sc (.int .u64 0)), (.sc (.int .i64 0)), (.sc (.int .i64 0)), (.slice none 0), (.sc (.int .i64 0)), (.slice none 0), (.sc (.int .i64 0)), (.sc (.int .i64 0))])))⟩] [0, 1, 4]) (
  .seq (
  .reg [⟨(some 6), none, (.q (.mov (.t 0)))⟩,
    ⟨(some 7), none, (.q (.nchk (.t 6)))⟩,
    ⟨(some 8), none, (.q (.fld 5 215 (.t 7)))⟩,
    ⟨(some 9), none, (.rd (.ld false 1 (.t 8)))⟩,
    ⟨(some 10), none, (.q (.mov (.t 1)))⟩,
    ⟨(some 11), none, (.q (.ixs 3 (.t 9) (.t 10)))⟩,
    ⟨(some 12), none, (.rd (.ld true 3 (.t 11)))⟩,
    ⟨(some 5), none, (.al (.alloc (.agg [1, 1, 1] [(.sc (.bool false)), (.sc (.bool false)), (.sc (.int .i64 0))])))⟩,
    ⟨none, none, (.ac (.st 3 (.t 5) (.t 12)))⟩] [0, 4, 5]) (
  .seq (
  .seq (
  .reg [⟨(some 13), none, (.q (.fld 0 0 (.t 5)))⟩,
    ⟨(some 14), none, (.rd (.ld false 1 (.t 13)))⟩,
    ⟨(some 15), none, (.q (.un .not (.t 14)))⟩] [0, 4, 5, 15]) (
  .cond (.t 15) (
   .seq (
   .reg [⟨(some 16), none, (.q (.bld (.agg [1, 1, 1, 1, 1, 1, 1, 1, 1, 1, 1, 1, 1] [(.sc (.int .i64 0)), (.sc (.int .i64 0)), (.sc (.int .i64 0)), (.sc (.int .i64 0)), (.sc (.bool false)), (.sc (.int .u64 0)), (.sc (.int .i64 0)), (.sc (.int .i64 0)), (.slice none 0), (.sc (.int .i64 0)), (.slice none 0), (.sc (.int .i64 0)), (.sc (.int .i64 0))]) [(0, (.k (.int .i64 6)))]))⟩,
     ⟨none, none, (.ac (.st 13 (.t 4) (.t 16)))⟩] [4, 5]) (
   .ret)) (
   .skip))) (
  .seq (
  .draw [(7, ⟨(some 24), none, (.q (.mov (.t 0)))⟩, 0),
    (8, ⟨(some 25), none, (.q (.nchk (.t 24)))⟩, 0),
    (9, ⟨(some 26), none, (.q (.fld 2 11 (.t 25)))⟩, 0),
    (10, ⟨(some 27), none, (.rd (.ld false 1 (.t 26)))⟩, 0),
    (11, ⟨(some 28), none, (.q (.fld 2 2 (.t 5)))⟩, 0),
    (12, ⟨(some 29), none, (.rd (.ld false 1 (.t 28)))⟩, 0),
    (13, ⟨(some 30), none, (.ac (.callf 51 [(.t 27), (.t 29), (.k (.int .i64 8))]))⟩, 0),
    (0, ⟨(some 17), none, (.q (.mov (.t 0)))⟩, 1),
    (1, ⟨(some 18), none, (.q (.nchk (.t 17)))⟩, 1),
    (2, ⟨(some 19), none, (.q (.fld 0 0 (.t 18)))⟩, 1),
    (3, ⟨(some 20), none, (.q (.fld 0 0 (.t 19)))⟩, 1),
    (4, ⟨(some 21), none, (.rd (.ld false 1 (.t 20)))⟩, 1),
    (5, ⟨(some 22), none, (.q (.fld 2 2 (.t 5)))⟩, 1),
    (6, ⟨(some 23), none, (.rd (.ld false 1 (.t 22)))⟩, 1),
    (14, ⟨(some 31), none, (.q (.bld (.agg [1, 1, 1, 1, 1, 1, 1, 1, 1, 1, 1, 1, 1] [(.sc (.int .i64 0)), (.sc (.int .i64 0)), (.sc (.int .i64 0)), (.sc (.int .i64 0)), (.sc (.bool false)), (.sc (.int .u64 0)), (.sc (.int .i64 0)), (.sc (.int .i64 0)), (.slice none 0), (.sc (.int .i64 0)), (.slice none 0), (.sc (.int .i64 0)), (.sc (.int .i64 0))]) [(0, (.k (.int .i64 3))), (9, (.t 21)), (7, (.t 23)), (10, (.t 30))]))⟩, 0),
    (15, ⟨none, none, (.ac (.st 13 (.t 4) (.t 31)))⟩, 0)] [4, 5]) (
  .ret)))),
  [.cell 4 true 13], [4, 5]⟩
noncomputable def g44 : HFn Tryz.prog := ⟨r44, fun K => wslow Tryz.prog K r44.code, fun _ _ hK => wslow_fits hK _ (by decide +kernel)⟩
theorem c44 : chkF Tryz.prog Tryz.f44 r44 = true := by decide +kernel

/-- (*doubletake/gate.Gate).Address -/
def r45 : RFn := ⟨2,
  .seq (
  .reg [⟨(some 4), none, (.q (.mov (.k (.int .i64 0))))⟩] [0, 1]) (
  .seq (
  .reg [⟨(some 6), none, (.q (.mov (.t 0)))⟩,
    ⟨(some 7), none, (.q (.mov (.t 1)))⟩,
    ⟨(some 8), none, (.ac (.callf 75 [(.t 6), (.t 7)]))⟩,
    ⟨(some 5), none, (.q (.mov (.t 8)))⟩] [5]) (
  .seq (
  .seq (
  .reg [⟨(some 9), none, (.q (.mov (.t 5)))⟩,
    ⟨(some 10), none, (.q (.nil 0 false (.t 9)))⟩] [5, 10]) (
  .cond (.t 10) (
   .seq (
   .reg [⟨(some 4), none, (.q (.mov (.k (.int .i64 0))))⟩] [4]) (
   .ret)) (
   .skip))) (
  .seq (
  .reg [⟨(some 11), none, (.q (.mov (.t 5)))⟩,
    ⟨(some 12), none, (.q (.nchk (.t 11)))⟩,
    ⟨(some 13), none, (.q (.fld 4 4 (.t 12)))⟩,
    ⟨(some 14), none, (.rd (.ld false 1 (.t 13)))⟩,
    ⟨(some 4), none, (.q (.mov (.t 14)))⟩] [4]) (
  .ret)))),
  [.tmp 4], []⟩
noncomputable def g45 : HFn Tryz.prog := ⟨r45, fun K => wslow Tryz.prog K r45.code, fun _ _ hK => wslow_fits hK _ (by decide +kernel)⟩
theorem c45 : chkF Tryz.prog Tryz.f45 r45 = true := by decide +kernel

/-- doubletake/doubletakeref1.Open -/
def r46 : RFn := ⟨2,
  .seq (
  .reg [⟨(some 4), none, (.q (.mov .nils))⟩,
    ⟨(some 5), none, (.q (.mov (.k (.bool false))))⟩] [0, 1]) (
  .seq (
  .reg [⟨(some 7), none, (.q (.mov (.t 1)))⟩,
    ⟨(some 8), none, (.q (.len false (.t 7)))⟩,
    ⟨(some 9), none, (.q (.bin .sub 3 (.t 8) (.k (.int .i64 4))))⟩,
    ⟨(some 6), none, (.q (.mov (.t 9)))⟩] [0, 1, 6]) (
  .seq (
  .seq (
  .draw [(0, ⟨(some 10), none, (.q (.mov (.t 6)))⟩, 0),
    (1, ⟨(some 11), none, (.q (.bin .lss 3 (.t 10) (.k (.int .i64 0))))⟩, 0),
    (2, ⟨(some 12), none, (.q (.mov (.t 11)))⟩, 0),
    (3, ⟨(some 13), (some (12, false)), (.q (.mov (.t 0)))⟩, 0),
    (4, ⟨(some 14), (some (12, false)), (.q (.mov (.t 1)))⟩, 0),
    (5, ⟨(some 15), (some (12, false)), (.q (.mov (.t 6)))⟩, 0),
    (6, ⟨(some 16), (some (12, false)), (.q (.slc 1 (.t 14) none (some (.t 15))))⟩, 0),
    (7, ⟨(some 17), (some (12, false)), (.ac (.callf 61 [(.t 13), (.t 16)]))⟩, 0),
    (8, ⟨(some 18), (some (12, false)), (.rd (.cvs (.t 17)))⟩, 0),
    (9, ⟨(some 19), (some (12, false)), (.q (.mov (.t 1)))⟩, 1),
    (10, ⟨(some 20), (some (12, false)), (.rd (.cvs (.t 19)))⟩, 1),
    (11, ⟨(some 21), (some (12, false)), (.q (.bin .neq 9 (.t 18) (.t 20)))⟩, 0),
    (12, ⟨(some 22), none, (.q (.pick (.t 12) (.k (.bool true)) (.t 21)))⟩, 0)] [1, 6, 22]) (
  .cond (.t 22) (
   .seq (
   .reg [⟨(some 4), none, (.q (.mov .nils))⟩,
     ⟨(some 5), none, (.q (.mov (.k (.bool false))))⟩] [4, 5]) (
   .ret)) (
   .skip))) (
  .seq (
  .reg [⟨(some 23), none, (.al (.bldS 1 0 (.sc (.int .u8 0)) []))⟩,
    ⟨(some 24), none, (.q (.mov (.t 1)))⟩,
    ⟨(some 25), none, (.q (.mov (.t 6)))⟩,
    ⟨(some 26), none, (.q (.slc 1 (.t 24) none (some (.t 25))))⟩,
    ⟨(some 27), none, (.ac (.app false 1 1 (.t 23) (.t 26)))⟩,
    ⟨(some 4), none, (.q (.mov (.t 27)))⟩,
    ⟨(some 5), none, (.q (.mov (.k (.bool true))))⟩] [4, 5]) (
  .ret)))),
  [.tmp 4, .tmp 5], []⟩
noncomputable def g46 : HFn Tryz.prog := ⟨r46, fun K => wslow Tryz.prog K r46.code, fun _ _ hK => wslow_fits hK _ (by decide +kernel)⟩
theorem c46 : chkF Tryz.prog Tryz.f46 r46 = true := by decide +kernel

/-! (*doubletake/doubletakeref1.Reader).Get -/
def o47n0 : List RI := [⟨(some 4), none, (.q (.mov (.k (.int .u64 0))))⟩]
noncomputable def b47n0 (K : KTC) (k : KS) (a0 a1 : AV) (c : KN) (p : KV) : Kr :=
  c [(0, a0), (1, a1)] k
theorem e47n0 (K : KTC) (k : KS) (a0 a1 : AV) (c : KN) (p : KV) : b47n0 K k a0 a1 c p = wReg Tryz.prog K [0, 1] o47n0 [(0, a0), (1, a1)] k c p := by unfold b47n0; kernel_rfl
noncomputable def s47n0 (K : KTC) (e : Env) (k : KS) (c : KN) (p : KV) : Kr := gt e 0 fun a0 => gt e 1 fun a1 => b47n0 K k a0 a1 c p
theorem p47n0 (K : KTC) (K' : KT) (hK : CSound K K') : FitsC Tryz.prog K' (.reg (s47n0 K)) (.reg o47n0 [0, 1]) := fun e k c p y h => by
  obtain ⟨a0, h0, h⟩ := gt_some h
  obtain ⟨a1, h1, h⟩ := gt_some h
  exact wreg_fit hK (by decide +kernel) (keep_cons h0 (keep_cons h1 (keep_nil))) (e47n0 K k a0 a1 c p) h
def o47n1 : List RI := [⟨(some 7), none, (.q (.mov (.t 1)))⟩, ⟨(some 8), none, (.q (.mm false [(.k (.int .i64 64)), (.t 7)]))⟩, ⟨(some 9), none, (.q (.mm true [(.k (.int .i64 0)), (.t 8)]))⟩, ⟨(some 1), none, (.q (.mov (.t 9)))⟩]
noncomputable def b47n1 (K : KTC) (k : KS) (a1 a0 : AV) (c : KN) (p : KV) : Kr :=
  xMM false (.sc (.int .i64 64)) a1 fun v0 =>
  xMM true (.sc (.int .i64 0)) v0 fun v1 =>
  c [(0, a0), (1, v1)] k
theorem e47n1 (K : KTC) (k : KS) (a1 a0 : AV) (c : KN) (p : KV) : b47n1 K k a1 a0 c p = wReg Tryz.prog K [0, 1] o47n1 [(1, a1), (0, a0)] k c p := by unfold b47n1; simp only [xMM_eq]; kernel_rfl
noncomputable def s47n1 (K : KTC) (e : Env) (k : KS) (c : KN) (p : KV) : Kr := gt e 1 fun a1 => gt e 0 fun a0 => b47n1 K k a1 a0 c p
theorem p47n1 (K : KTC) (K' : KT) (hK : CSound K K') : FitsC Tryz.prog K' (.reg (s47n1 K)) (.reg o47n1 [0, 1]) := fun e k c p y h => by
  obtain ⟨a1, h1, h⟩ := gt_some h
  obtain ⟨a0, h0, h⟩ := gt_some h
  exact wreg_fit hK (by decide +kernel) (keep_cons h1 (keep_cons h0 (keep_nil))) (e47n1 K k a1 a0 c p) h
def o47n2 : Plan := [(0, ⟨(some 10), none, (.q (.mov (.t 0)))⟩, 0), (1, ⟨(some 11), none, (.q (.nchk (.t 10)))⟩, 0), (2, ⟨(some 12), none, (.q (.fld 2 2 (.t 11)))⟩, 0), (3, ⟨(some 13), none, (.rd (.ld false 1 (.t 12)))⟩, 0), (4, ⟨(some 14), none, (.q (.mov (.t 13)))⟩, 0), (5, ⟨(some 15), (some (14, false)), (.q (.mov (.t 1)))⟩, 0), (6, ⟨(some 16), (some (14, false)), (.q (.mov (.t 0)))⟩, 0), (7, ⟨(some 17), (some (14, false)), (.q (.nchk (.t 16)))⟩, 0), (8, ⟨(some 18), (some (14, false)), (.q (.fld 0 0 (.t 17)))⟩, 0), (9, ⟨(some 19), (some (14, false)), (.rd (.ld false 1 (.t 18)))⟩, 0), (10, ⟨(some 20), (some (14, false)), (.q (.len false (.t 19)))⟩, 0), (11, ⟨(some 21), (some (14, false)), (.q (.bin .mul 3 (.k (.int .i64 8)) (.t 20)))⟩, 0), (12, ⟨(some 22), (some (14, false)), (.q (.mov (.t 0)))⟩, 0), (13, ⟨(some 23), (some (14, false)), (.q (.nchk (.t 22)))⟩, 0), (14, ⟨(some 24), (some (14, false)), (.q (.fld 1 1 (.t 23)))⟩, 0), (15, ⟨(some 25), (some (14, false)), (.rd (.ld false 1 (.t 24)))⟩, 0), (16, ⟨(some 26), (some (14, false)), (.q (.bin .sub 3 (.t 21) (.t 25)))⟩, 0), (17, ⟨(some 27), (some (14, false)), (.q (.bin .gtr 3 (.t 15) (.t 26)))⟩, 0), (18, ⟨(some 28), none, (.q (.pick (.t 14) (.k (.bool true)) (.t 27)))⟩, 0)]
def o47n3 : List RI := [⟨(some 29), none, (.q (.mov (.t 0)))⟩, ⟨(some 30), none, (.q (.nchk (.t 29)))⟩, ⟨(some 31), none, (.q (.fld 2 2 (.t 30)))⟩, ⟨none, none, (.ac (.st 1 (.t 31) (.k (.bool true))))⟩]
noncomputable def b47n3 (K : KTC) (k : KS) (a0 : AV) (c : KN) (p : KV) : Kr :=
  xStf k 2 2 1 a0 (.sc (.bool true)) (fun v0 k0 =>
  c [] k0) (p)
theorem e47n3 (K : KTC) (k : KS) (a0 : AV) (c : KN) (p : KV) : b47n3 K k a0 c p = wReg Tryz.prog K [] o47n3 [(0, a0)] k c p := by unfold b47n3; simp only [xStf_eq]; kernel_rfl
noncomputable def s47n3 (K : KTC) (e : Env) (k : KS) (c : KN) (p : KV) : Kr := gt e 0 fun a0 => b47n3 K k a0 c p
theorem p47n3 (K : KTC) (K' : KT) (hK : CSound K K') : FitsC Tryz.prog K' (.reg (s47n3 K)) (.reg o47n3 []) := fun e k c p y h => by
  obtain ⟨a0, h0, h⟩ := gt_some h
  exact wreg_fit hK (by decide +kernel) (keep_cons h0 (keep_nil)) (e47n3 K k a0 c p) h
def o47n4 : List RI := [⟨(some 4), none, (.q (.mov (.k (.int .u64 0))))⟩]
noncomputable def b47n4 (K : KTC) (k : KS) (c : KN) (p : KV) : Kr :=
  c [(4, (.sc (.int .u64 0)))] k
theorem e47n4 (K : KTC) (k : KS) (c : KN) (p : KV) : b47n4 K k  c p = wReg Tryz.prog K [4] o47n4 [] k c p := by unfold b47n4; kernel_rfl
noncomputable def s47n4 (K : KTC) (e : Env) (k : KS) (c : KN) (p : KV) : Kr := b47n4 K k  c p
theorem p47n4 (K : KTC) (K' : KT) (hK : CSound K K') : FitsC Tryz.prog K' (.reg (s47n4 K)) (.reg o47n4 [4]) := fun e k c p y h => by
  exact wreg_fit hK (by decide +kernel) (keep_nil) (e47n4 K k  c p) h
def o47n5 : List RI := [⟨(some 5), none, (.q (.mov (.k (.int .u64 0))))⟩]
noncomputable def b47n5 (K : KTC) (k : KS) (a0 a1 : AV) (c : KN) (p : KV) : Kr :=
  c [(0, a0), (1, a1), (5, (.sc (.int .u64 0)))] k
theorem e47n5 (K : KTC) (k : KS) (a0 a1 : AV) (c : KN) (p : KV) : b47n5 K k a0 a1 c p = wReg Tryz.prog K [0, 1, 5] o47n5 [(0, a0), (1, a1)] k c p := by unfold b47n5; kernel_rfl
noncomputable def s47n5 (K : KTC) (e : Env) (k : KS) (c : KN) (p : KV) : Kr := gt e 0 fun a0 => gt e 1 fun a1 => b47n5 K k a0 a1 c p
theorem p47n5 (K : KTC) (K' : KT) (hK : CSound K K') : FitsC Tryz.prog K' (.reg (s47n5 K)) (.reg o47n5 [0, 1, 5]) := fun e k c p y h => by
  obtain ⟨a0, h0, h⟩ := gt_some h
  obtain ⟨a1, h1, h⟩ := gt_some h
  exact wreg_fit hK (by decide +kernel) (keep_cons h0 (keep_cons h1 (keep_nil))) (e47n5 K k a0 a1 c p) h
def o47n6 : List RI := [⟨(some 6), none, (.q (.mov (.k (.int .i64 0))))⟩]
noncomputable def b47n6 (K : KTC) (k : KS) (a0 a1 a5 : AV) (c : KN) (p : KV) : Kr :=
  c [(0, a0), (1, a1), (5, a5), (6, (.sc (.int .i64 0)))] k
theorem e47n6 (K : KTC) (k : KS) (a0 a1 a5 : AV) (c : KN) (p : KV) : b47n6 K k a0 a1 a5 c p = wReg Tryz.prog K [0, 1, 5, 6] o47n6 [(0, a0), (1, a1), (5, a5)] k c p := by unfold b47n6; kernel_rfl
noncomputable def s47n6 (K : KTC) (e : Env) (k : KS) (c : KN) (p : KV) : Kr := gt e 0 fun a0 => gt e 1 fun a1 => gt e 5 fun a5 => b47n6 K k a0 a1 a5 c p
theorem p47n6 (K : KTC) (K' : KT) (hK : CSound K K') : FitsC Tryz.prog K' (.reg (s47n6 K)) (.reg o47n6 [0, 1, 5, 6]) := fun e k c p y h => by
  obtain ⟨a0, h0, h⟩ := gt_some h
  obtain ⟨a1, h1, h⟩ := gt_some h
  obtain ⟨a5, h5, h⟩ := gt_some h
  exact wreg_fit hK (by decide +kernel) (keep_cons h0 (keep_cons h1 (keep_cons h5 (keep_nil)))) (e47n6 K k a0 a1 a5 c p) h
def o47n7 : List RI := [⟨(some 32), none, (.q (.mov (.t 6)))⟩, ⟨(some 33), none, (.q (.mov (.t 1)))⟩, ⟨(some 34), none, (.q (.bin .lss 3 (.t 32) (.t 33)))⟩]
noncomputable def b47n7 (K : KTC) (k : KS) (a6 a1 a0 a5 : AV) (c : KN) (p : KV) : Kr :=
  xLss 3 a6 a1 fun v0 =>
  c [(0, a0), (1, a1), (5, a5), (6, a6), (34, v0)] k
theorem e47n7 (K : KTC) (k : KS) (a6 a1 a0 a5 : AV) (c : KN) (p : KV) : b47n7 K k a6 a1 a0 a5 c p = wReg Tryz.prog K [0, 1, 5, 6, 34] o47n7 [(6, a6), (1, a1), (0, a0), (5, a5)] k c p := by unfold b47n7; simp only [xLss_eq]; kernel_rfl
noncomputable def s47n7 (K : KTC) (e : Env) (k : KS) (c : KN) (p : KV) : Kr := gt e 6 fun a6 => gt e 1 fun a1 => gt e 0 fun a0 => gt e 5 fun a5 => b47n7 K k a6 a1 a0 a5 c p
theorem p47n7 (K : KTC) (K' : KT) (hK : CSound K K') : FitsC Tryz.prog K' (.reg (s47n7 K)) (.reg o47n7 [0, 1, 5, 6, 34]) := fun e k c p y h => by
  obtain ⟨a6, h6, h⟩ := gt_some h
  obtain ⟨a1, h1, h⟩ := gt_some h
  obtain ⟨a0, h0, h⟩ := gt_some h
  obtain ⟨a5, h5, h⟩ := gt_some h
  exact wreg_fit hK (by decide +kernel) (keep_cons h6 (keep_cons h1 (keep_cons h0 (keep_cons h5 (keep_nil))))) (e47n7 K k a6 a1 a0 a5 c p) h
def o47n8 : Plan := [(0, ⟨(some 37), none, (.q (.mov (.t 5)))⟩, 0), (1, ⟨(some 38), none, (.q (.bin .shl 39 (.t 37) (.k (.int .u64 1))))⟩, 0), (2, ⟨(some 39), none, (.q (.mov (.t 0)))⟩, 0), (3, ⟨(some 40), none, (.q (.nchk (.t 39)))⟩, 0), (4, ⟨(some 41), none, (.q (.fld 0 0 (.t 40)))⟩, 0), (5, ⟨(some 42), none, (.rd (.ld false 1 (.t 41)))⟩, 0), (6, ⟨(some 43), none, (.q (.mov (.t 0)))⟩, 0), (7, ⟨(some 44), none, (.q (.nchk (.t 43)))⟩, 0), (8, ⟨(some 45), none, (.q (.fld 1 1 (.t 44)))⟩, 0), (9, ⟨(some 46), none, (.rd (.ld false 1 (.t 45)))⟩, 0), (10, ⟨(some 47), none, (.q (.bin .quo 3 (.t 46) (.k (.int .i64 8))))⟩, 0), (11, ⟨(some 48), none, (.q (.ixs 1 (.t 42) (.t 47)))⟩, 0), (12, ⟨(some 49), none, (.rd (.ld false 1 (.t 48)))⟩, 0), (13, ⟨(some 50), none, (.q (.mov (.t 0)))⟩, 0), (14, ⟨(some 51), none, (.q (.nchk (.t 50)))⟩, 0), (15, ⟨(some 52), none, (.q (.fld 1 1 (.t 51)))⟩, 0), (16, ⟨(some 53), none, (.rd (.ld false 1 (.t 52)))⟩, 0), (17, ⟨(some 54), none, (.q (.bin .rem 3 (.t 53) (.k (.int .i64 8))))⟩, 0), (18, ⟨(some 55), none, (.q (.bin .sub 3 (.k (.int .i64 7)) (.t 54)))⟩, 0), (19, ⟨(some 56), none, (.q (.conv 3 165 (.t 55)))⟩, 0), (20, ⟨(some 57), none, (.q (.bin .shr 5 (.t 49) (.t 56)))⟩, 0), (21, ⟨(some 58), none, (.q (.bin .and 5 (.t 57) (.k (.int .u8 1))))⟩, 0), (22, ⟨(some 59), none, (.q (.conv 5 39 (.t 58)))⟩, 0), (23, ⟨(some 60), none, (.q (.bin .or 39 (.t 38) (.t 59)))⟩, 0), (24, ⟨(some 5), none, (.q (.mov (.t 60)))⟩, 0)]
noncomputable def b47n8 (K : KTC) (k : KS) (a5 a0 a1 a6 : AV) (c : KN) (p : KV) : Kr :=
  xShl 39 a5 (.sc (.int .u64 1)) fun v0 =>
  xLdf k.t 0 0 false 1 a0 fun v1 =>
  xLdf k.t 1 1 false 1 a0 fun v2 =>
  xQuo 3 v2 (.sc (.int .i64 8)) fun v3 =>
  xIxl k.t 1 false 1 v1 v3 fun v4 =>
  xLdf k.t 1 1 false 1 a0 fun v5 =>
  xRem 3 v5 (.sc (.int .i64 8)) fun v6 =>
  xSub 3 (.sc (.int .i64 7)) v6 fun v7 =>
  xConv 3 165 v7 fun v8 =>
  xShr 5 v4 v8 fun v9 =>
  xAnd 5 v9 (.sc (.int .u8 1)) fun v10 =>
  xConv 5 39 v10 fun v11 =>
  xOr 39 v0 v11 fun v12 =>
  c [(0, a0), (1, a1), (5, v12), (6, a6)] k
theorem e47n8 (K : KTC) (k : KS) (a5 a0 a1 a6 : AV) (c : KN) (p : KV) : b47n8 K k a5 a0 a1 a6 c p = wLive Tryz.prog K [0, 1, 5, 6] o47n8 [(5, a5), (0, a0), (1, a1), (6, a6)] k k.t [] c p := by unfold b47n8; simp only [xOr_eq, xAnd_eq, xShr_eq, xConv_eq, xSub_eq, xRem_eq, xIxl_eq, xQuo_eq, xLdf_eq, xShl_eq]; kernel_rfl
noncomputable def s47n8 (K : KTC) (e : Env) (k : KS) (c : KN) (p : KV) : Kr := gt e 5 fun a5 => gt e 0 fun a0 => gt e 1 fun a1 => gt e 6 fun a6 => b47n8 K k a5 a0 a1 a6 c p
theorem p47n8 (K : KTC) (K' : KT) (hK : CSound K K') : FitsC Tryz.prog K' (.reg (s47n8 K)) (.draw o47n8 [0, 1, 5, 6]) := fun e k c p y h => by
  obtain ⟨a5, h5, h⟩ := gt_some h
  obtain ⟨a0, h0, h⟩ := gt_some h
  obtain ⟨a1, h1, h⟩ := gt_some h
  obtain ⟨a6, h6, h⟩ := gt_some h
  exact wdraw_fit hK (by decide +kernel) (keep_cons h5 (keep_cons h0 (keep_cons h1 (keep_cons h6 (keep_nil))))) (e47n8 K k a5 a0 a1 a6 c p) h
def o47n9 : List RI := [⟨(some 61), none, (.q (.mov (.t 0)))⟩, ⟨(some 62), none, (.q (.nchk (.t 61)))⟩, ⟨(some 63), none, (.q (.fld 1 1 (.t 62)))⟩, ⟨(some 64), none, (.rd (.ld false 1 (.t 63)))⟩, ⟨(some 65), none, (.q (.bin .add 3 (.t 64) (.k (.int .i64 1))))⟩, ⟨(some 66), none, (.q (.nchk (.t 61)))⟩, ⟨(some 67), none, (.q (.fld 1 1 (.t 66)))⟩, ⟨none, none, (.ac (.st 1 (.t 67) (.t 65)))⟩]
noncomputable def b47n9 (K : KTC) (k : KS) (a0 a1 a5 a6 : AV) (c : KN) (p : KV) : Kr :=
  xLdf k.t 1 1 false 1 a0 fun v0 =>
  xAdd 3 v0 (.sc (.int .i64 1)) fun v1 =>
  xStf k 1 1 1 a0 v1 (fun v2 k2 =>
  c [(0, a0), (1, a1), (5, a5), (6, a6)] k2) (p)
theorem e47n9 (K : KTC) (k : KS) (a0 a1 a5 a6 : AV) (c : KN) (p : KV) : b47n9 K k a0 a1 a5 a6 c p = wReg Tryz.prog K [0, 1, 5, 6] o47n9 [(0, a0), (1, a1), (5, a5), (6, a6)] k c p := by unfold b47n9; simp only [xStf_eq, xAdd_eq, xLdf_eq]; kernel_rfl
noncomputable def s47n9 (K : KTC) (e : Env) (k : KS) (c : KN) (p : KV) : Kr := gt e 0 fun a0 => gt e 1 fun a1 => gt e 5 fun a5 => gt e 6 fun a6 => b47n9 K k a0 a1 a5 a6 c p
theorem p47n9 (K : KTC) (K' : KT) (hK : CSound K K') : FitsC Tryz.prog K' (.reg (s47n9 K)) (.reg o47n9 [0, 1, 5, 6]) := fun e k c p y h => by
  obtain ⟨a0, h0, h⟩ := gt_some h
  obtain ⟨a1, h1, h⟩ := gt_some h
  obtain ⟨a5, h5, h⟩ := gt_some h
  obtain ⟨a6, h6, h⟩ := gt_some h
  exact wreg_fit hK (by decide +kernel) (keep_cons h0 (keep_cons h1 (keep_cons h5 (keep_cons h6 (keep_nil))))) (e47n9 K k a0 a1 a5 a6 c p) h
def o47n10 : List RI := [⟨(some 35), none, (.q (.mov (.t 6)))⟩, ⟨(some 36), none, (.q (.bin .add 3 (.t 35) (.k (.int .i64 1))))⟩, ⟨(some 6), none, (.q (.mov (.t 36)))⟩]
noncomputable def b47n10 (K : KTC) (k : KS) (a6 a0 a1 a5 : AV) (c : KN) (p : KV) : Kr :=
  xAdd 3 a6 (.sc (.int .i64 1)) fun v0 =>
  c [(0, a0), (1, a1), (5, a5), (6, v0)] k
theorem e47n10 (K : KTC) (k : KS) (a6 a0 a1 a5 : AV) (c : KN) (p : KV) : b47n10 K k a6 a0 a1 a5 c p = wReg Tryz.prog K [0, 1, 5, 6] o47n10 [(6, a6), (0, a0), (1, a1), (5, a5)] k c p := by unfold b47n10; simp only [xAdd_eq]; kernel_rfl
noncomputable def s47n10 (K : KTC) (e : Env) (k : KS) (c : KN) (p : KV) : Kr := gt e 6 fun a6 => gt e 0 fun a0 => gt e 1 fun a1 => gt e 5 fun a5 => b47n10 K k a6 a0 a1 a5 c p
theorem p47n10 (K : KTC) (K' : KT) (hK : CSound K K') : FitsC Tryz.prog K' (.reg (s47n10 K)) (.reg o47n10 [0, 1, 5, 6]) := fun e k c p y h => by
  obtain ⟨a6, h6, h⟩ := gt_some h
  obtain ⟨a0, h0, h⟩ := gt_some h
  obtain ⟨a1, h1, h⟩ := gt_some h
  obtain ⟨a5, h5, h⟩ := gt_some h
  exact wreg_fit hK (by decide +kernel) (keep_cons h6 (keep_cons h0 (keep_cons h1 (keep_cons h5 (keep_nil))))) (e47n10 K k a6 a0 a1 a5 c p) h
def o47n11 : List RI := [⟨(some 68), none, (.q (.mov (.t 5)))⟩, ⟨(some 4), none, (.q (.mov (.t 68)))⟩]
noncomputable def b47n11 (K : KTC) (k : KS) (a5 : AV) (c : KN) (p : KV) : Kr :=
  c [(4, a5)] k
theorem e47n11 (K : KTC) (k : KS) (a5 : AV) (c : KN) (p : KV) : b47n11 K k a5 c p = wReg Tryz.prog K [4] o47n11 [(5, a5)] k c p := by unfold b47n11; kernel_rfl
noncomputable def s47n11 (K : KTC) (e : Env) (k : KS) (c : KN) (p : KV) : Kr := gt e 5 fun a5 => b47n11 K k a5 c p
theorem p47n11 (K : KTC) (K' : KT) (hK : CSound K K') : FitsC Tryz.prog K' (.reg (s47n11 K)) (.reg o47n11 [4]) := fun e k c p y h => by
  obtain ⟨a5, h5, h⟩ := gt_some h
  exact wreg_fit hK (by decide +kernel) (keep_cons h5 (keep_nil)) (e47n11 K k a5 c p) h
def r47 : RFn := ⟨2, .seq (.reg o47n0 [0, 1]) (.seq (.reg o47n1 [0, 1]) (.seq (.seq (.draw o47n2 [0, 1, 28]) (.cond (.t 28) (.seq (.reg o47n3 []) (.seq (.reg o47n4 [4]) (.ret))) (.skip))) (.seq (.reg o47n5 [0, 1, 5]) (.seq (.seq (.reg o47n6 [0, 1, 5, 6]) (.block 0 (.loop [0, 1, 5, 6] (.seq (.seq (.reg o47n7 [0, 1, 5, 6, 34]) (.cond (.t 34) (.skip) (.exit 0))) (.seq (.block 1 (.seq (.draw o47n8 [0, 1, 5, 6]) (.reg o47n9 [0, 1, 5, 6]))) (.reg o47n10 [0, 1, 5, 6])))))) (.seq (.reg o47n11 [4]) (.ret)))))), [.tmp 4], []⟩
noncomputable def q47 (K : KTC) : FK := .seq (.reg (s47n0 K)) (.seq (.reg (s47n1 K)) (.seq (.seq (.reg fun e k c p => wLive Tryz.prog K [0, 1, 28] o47n2 e k k.t [] c p) (.cond (.t 28) (.seq (.reg (s47n3 K)) (.seq (.reg (s47n4 K)) (.ret))) (.skip))) (.seq (.reg (s47n5 K)) (.seq (.seq (.reg (s47n6 K)) (.block 0 (.loop [0, 1, 5, 6] (.seq (.seq (.reg (s47n7 K)) (.cond (.t 34) (.skip) (.exit 0))) (.seq (.block 1 (.seq (.reg (s47n8 K)) (.reg (s47n9 K)))) (.reg (s47n10 K))))))) (.seq (.reg (s47n11 K)) (.ret))))))
theorem ok47 (K : KTC) (K' : KT) (hK : CSound K K') : FitsC Tryz.prog K' (q47 K) r47.code := hs (p47n0 K _ hK) (hs (p47n1 K _ hK) (hs (hs (wslow_draw hK) (hc (hs (p47n3 K _ hK) (hs (p47n4 K _ hK) (hr))) (hk))) (hs (p47n5 K _ hK) (hs (hs (p47n6 K _ hK) (hb (hl (by decide +kernel) (hs (hs (p47n7 K _ hK) (hc (hk) (hx))) (hs (hb (hs (p47n8 K _ hK) (p47n9 K _ hK))) (p47n10 K _ hK)))))) (hs (p47n11 K _ hK) (hr))))))
noncomputable def g47 : HFn Tryz.prog := ⟨r47, q47, ok47⟩
theorem c47 : chkF Tryz.prog Tryz.f47 r47 = true := by decide +kernel

/-- doubletake/doubletakeref15.readInput -/
def r48 : RFn := ⟨1,
  .seq (
  .reg [⟨(some 2), none, (.al (.alloc (.agg [1, 1, 1] [(.sc (.int .i64 0)), (.sc (.int .i64 0)), (.sc (.int .i64 0))])))⟩] [0, 2]) (
  .seq (
  .reg [⟨(some 5), none, (.q (.mov (.t 0)))⟩,
    ⟨(some 6), none, (.ac (.callf 47 [(.t 5), (.k (.int .i64 8))]))⟩,
    ⟨(some 7), none, (.q (.conv 39 3 (.t 6)))⟩,
    ⟨(some 3), none, (.q (.mov (.t 7)))⟩] [0, 2, 3]) (
  .seq (
  .reg [⟨(some 8), none, (.q (.mov (.t 0)))⟩,
    ⟨(some 9), none, (.ac (.callf 79 [(.t 8), (.k (.int .i64 8))]))⟩,
    ⟨(some 4), none, (.q (.mov (.t 9)))⟩] [0, 2, 3, 4]) (
  .seq (
  .reg [⟨(some 10), none, (.q (.mov (.t 3)))⟩,
    ⟨(some 11), none, (.q (.mov (.t 4)))⟩,
    ⟨(some 12), none, (.q (.mov (.t 0)))⟩,
    ⟨(some 13), none, (.ac (.callf 79 [(.t 12), (.k (.int .i64 8))]))⟩,
    ⟨(some 14), none, (.q (.bld (.agg [1, 1, 1] [(.sc (.int .i64 0)), (.sc (.int .i64 0)), (.sc (.int .i64 0))]) [(0, (.t 10)), (1, (.t 11)), (2, (.t 13))]))⟩,
    ⟨none, none, (.ac (.st 3 (.t 2) (.t 14)))⟩] [2]) (
  .ret)))),
  [.cell 2 true 3], [2]⟩
noncomputable def g48 : HFn Tryz.prog := ⟨r48, fun K => wslow Tryz.prog K r48.code, fun _ _ hK => wslow_fits hK _ (by decide +kernel)⟩
theorem c48 : chkF Tryz.prog Tryz.f48 r48 = true := by decide +kernel

/-- doubletake/doubletakeref11.LayState -/
def r49 : RFn := ⟨2,
  .seq (
  .reg [⟨(some 2), none, (.al (.box (.t 0)))⟩,
    ⟨(some 3), none, (.al (.box (.t 1)))⟩,
    ⟨(some 4), none, (.q (.mov .nils))⟩,
    ⟨(some 5), none, (.q (.mov (.k (.bool false))))⟩] [2, 3, 8, 16]) (
  .seq (
  .seq (
  .reg [⟨(some 11), none, (.rd (.ld true 10 (.t 2)))⟩,
    ⟨(some 12), none, (.rd (.ld true 202 (.t 3)))⟩,
    ⟨(some 13), none, (.ac (.callf 80 [(.t 11), (.t 12)]))⟩,
    ⟨(some 14), none, (.q (.un .not (.t 13)))⟩] [2, 3, 8, 14, 16]) (
  .cond (.t 14) (
   .seq (
   .reg [⟨(some 4), none, (.q (.mov .nils))⟩,
     ⟨(some 5), none, (.q (.mov (.k (.bool false))))⟩] [2, 3, 4, 5, 8, 16]) (
   .ret)) (
   .skip))) (
  .seq (
  .reg [⟨(some 15), none, (.q (.bld (.agg [1] [(.slice none 0)]) []))⟩,
    ⟨(some 16), none, (.al (.box (.t 15)))⟩,
    ⟨(some 6), none, (.q (.mov (.t 16)))⟩] [2, 3, 6, 16]) (
  .seq (
  .reg [⟨(some 17), none, (.q (.mov (.t 6)))⟩,
    ⟨(some 18), none, (.q (.fld 0 0 (.t 3)))⟩,
    ⟨(some 19), none, (.rd (.ld false 1 (.t 18)))⟩,
    ⟨(some 20), none, (.ac (.callf 81 [(.t 17), (.t 19), (.k (.int .i64 10))]))⟩] [2, 3, 6, 16]) (
  .seq (
  .reg [⟨(some 21), none, (.q (.mov (.t 6)))⟩,
    ⟨(some 22), none, (.q (.fld 1 1 (.t 3)))⟩,
    ⟨(some 23), none, (.rd (.ld false 1 (.t 22)))⟩,
    ⟨(some 24), none, (.ac (.callf 82 [(.t 21), (.t 23), (.k (.int .i64 64))]))⟩] [2, 3, 6, 16]) (
  .seq (
  .seq (
  .reg [⟨(some 7), none, (.q (.mov (.k (.int .i64 0))))⟩] [2, 3, 6, 7, 16]) (
  .block 0 (
   .loop [2, 3, 6, 7, 16] (
    .free [8] (
    .seq (
    .seq (
    .reg [⟨(some 25), none, (.q (.mov (.t 7)))⟩,
      ⟨(some 26), none, (.q (.bin .lss 3 (.t 25) (.k (.int .i64 16))))⟩] [2, 3, 6, 7, 8, 16, 26]) (
    .cond (.t 26) (
     .skip) (
     .exit 0))) (
    .seq (
    .block 1 (
     .seq (
     .reg [⟨(some 29), none, (.q (.mov (.t 7)))⟩,
       ⟨(some 30), none, (.q (.fld 2 2 (.t 3)))⟩,
       ⟨(some 31), none, (.q (.ixa 16 12 (.t 30) (.t 29)))⟩,
       ⟨(some 32), none, (.rd (.ld true 12 (.t 31)))⟩,
       ⟨(some 8), none, (.al (.alloc (.agg [1, 1, 1, 1, 1, 1, 1, 4, 1] [(.sc (.int .i64 0)), (.sc (.int .i64 0)), (.sc (.int .i64 0)), (.sc (.int .i64 0)), (.sc (.int .i64 0)), (.sc (.int .i64 0)), (.sc (.int .i64 0)), (.arr 1 (List.replicate 4 (.sc (.int .i64 0)))), (.sc (.int .i64 0))])))⟩,
       ⟨none, none, (.ac (.st 12 (.t 8) (.t 32)))⟩] [2, 3, 6, 7, 8, 16]) (
     .seq (
     .reg [⟨(some 33), none, (.q (.mov (.t 6)))⟩,
       ⟨(some 34), none, (.q (.fld 0 0 (.t 8)))⟩,
       ⟨(some 35), none, (.rd (.ld false 1 (.t 34)))⟩,
       ⟨(some 36), none, (.ac (.callf 81 [(.t 33), (.t 35), (.k (.int .i64 2))]))⟩] [2, 3, 6, 7, 8, 16]) (
     .seq (
     .seq (
     .reg [⟨(some 37), none, (.q (.fld 0 0 (.t 8)))⟩,
       ⟨(some 38), none, (.rd (.ld false 1 (.t 37)))⟩,
       ⟨(some 39), none, (.q (.bin .eql 3 (.t 38) (.k (.int .i64 0))))⟩] [2, 3, 6, 7, 8, 16, 39]) (
     .cond (.t 39) (
      .exit 1) (
      .skip))) (
     .seq (
     .reg [⟨(some 40), none, (.q (.mov (.t 6)))⟩,
       ⟨(some 41), none, (.q (.fld 1 1 (.t 8)))⟩,
       ⟨(some 42), none, (.rd (.ld false 1 (.t 41)))⟩,
       ⟨(some 43), none, (.ac (.callf 81 [(.t 40), (.t 42), (.k (.int .i64 3))]))⟩] [2, 3, 6, 7, 8, 16]) (
     .seq (
     .reg [⟨(some 44), none, (.q (.mov (.t 6)))⟩,
       ⟨(some 45), none, (.q (.fld 2 2 (.t 8)))⟩,
       ⟨(some 46), none, (.rd (.ld false 1 (.t 45)))⟩,
       ⟨(some 47), none, (.ac (.callf 81 [(.t 44), (.t 46), (.k (.int .i64 12))]))⟩] [2, 3, 6, 7, 8, 16]) (
     .seq (
     .reg [⟨(some 48), none, (.q (.mov (.t 6)))⟩,
       ⟨(some 49), none, (.q (.fld 3 3 (.t 8)))⟩,
       ⟨(some 50), none, (.rd (.ld false 1 (.t 49)))⟩,
       ⟨(some 51), none, (.ac (.callf 81 [(.t 48), (.t 50), (.k (.int .i64 12))]))⟩] [2, 3, 6, 7, 8, 16]) (
     .seq (
     .reg [⟨(some 52), none, (.q (.mov (.t 6)))⟩,
       ⟨(some 53), none, (.q (.fld 4 4 (.t 8)))⟩,
       ⟨(some 54), none, (.rd (.ld false 1 (.t 53)))⟩,
       ⟨(some 55), none, (.ac (.callf 81 [(.t 52), (.t 54), (.k (.int .i64 8))]))⟩] [2, 3, 6, 7, 8, 16]) (
     .seq (
     .reg [⟨(some 56), none, (.q (.mov (.t 6)))⟩,
       ⟨(some 57), none, (.q (.fld 5 5 (.t 8)))⟩,
       ⟨(some 58), none, (.rd (.ld false 1 (.t 57)))⟩,
       ⟨(some 59), none, (.ac (.callf 81 [(.t 56), (.t 58), (.k (.int .i64 8))]))⟩] [2, 3, 6, 7, 8, 16]) (
     .seq (
     .reg [⟨(some 60), none, (.q (.mov (.t 6)))⟩,
       ⟨(some 61), none, (.q (.fld 6 6 (.t 8)))⟩,
       ⟨(some 62), none, (.rd (.ld false 1 (.t 61)))⟩,
       ⟨(some 63), none, (.ac (.callf 81 [(.t 60), (.t 62), (.k (.int .i64 10))]))⟩] [2, 3, 6, 7, 8, 16]) (
     .seq (
     .seq (
     .reg [⟨(some 9), none, (.q (.mov (.k (.int .i64 0))))⟩] [2, 3, 6, 7, 8, 9, 16]) (
     .block 2 (
      .loop [2, 3, 6, 7, 8, 9, 16] (
       .seq (
       .seq (
       .reg [⟨(some 64), none, (.q (.mov (.t 9)))⟩,
         ⟨(some 65), none, (.q (.bin .lss 3 (.t 64) (.k (.int .i64 4))))⟩] [2, 3, 6, 7, 8, 9, 16, 65]) (
       .cond (.t 65) (
        .skip) (
        .exit 2))) (
       .seq (
       .block 3 (
        .reg [⟨(some 68), none, (.q (.mov (.t 6)))⟩,
          ⟨(some 69), none, (.q (.mov (.t 9)))⟩,
          ⟨(some 70), none, (.q (.fld 7 7 (.t 8)))⟩,
          ⟨(some 71), none, (.q (.ixa 4 1 (.t 70) (.t 69)))⟩,
          ⟨(some 72), none, (.rd (.ld false 1 (.t 71)))⟩,
          ⟨(some 73), none, (.ac (.callf 81 [(.t 68), (.t 72), (.k (.int .i64 21))]))⟩] [2, 3, 6, 7, 8, 9, 16])) (
       .reg [⟨(some 66), none, (.q (.mov (.t 9)))⟩,
         ⟨(some 67), none, (.q (.bin .add 3 (.t 66) (.k (.int .i64 1))))⟩,
         ⟨(some 9), none, (.q (.mov (.t 67)))⟩] [2, 3, 6, 7, 8, 9, 16])))))) (
     .reg [⟨(some 74), none, (.q (.mov (.t 6)))⟩,
       ⟨(some 75), none, (.q (.fld 8 11 (.t 8)))⟩,
       ⟨(some 76), none, (.rd (.ld false 1 (.t 75)))⟩,
       ⟨(some 77), none, (.ac (.callf 81 [(.t 74), (.t 76), (.k (.int .i64 16))]))⟩] [2, 3, 6, 7, 8, 16])))))))))))) (
    .reg [⟨(some 27), none, (.q (.mov (.t 7)))⟩,
      ⟨(some 28), none, (.q (.bin .add 3 (.t 27) (.k (.int .i64 1))))⟩,
      ⟨(some 7), none, (.q (.mov (.t 28)))⟩] [2, 3, 6, 7, 8, 16]))))))) (
  .seq (
  .seq (
  .reg [⟨(some 10), none, (.q (.mov (.k (.int .i64 0))))⟩] [2, 3, 6, 8, 10, 16]) (
  .block 4 (
   .loop [2, 3, 6, 8, 10, 16] (
    .seq (
    .seq (
    .reg [⟨(some 78), none, (.q (.mov (.t 10)))⟩,
      ⟨(some 79), none, (.q (.fld 0 0 (.t 2)))⟩,
      ⟨(some 80), none, (.rd (.ld false 1 (.t 79)))⟩,
      ⟨(some 81), none, (.q (.bin .lss 3 (.t 78) (.t 80)))⟩] [2, 3, 6, 8, 10, 16, 81]) (
    .cond (.t 81) (
     .skip) (
     .exit 4))) (
    .seq (
    .block 5 (
     .reg [⟨(some 84), none, (.q (.mov (.t 6)))⟩,
       ⟨(some 85), none, (.q (.mov (.t 10)))⟩,
       ⟨(some 86), none, (.q (.fld 3 194 (.t 3)))⟩,
       ⟨(some 87), none, (.q (.ixa 8 1 (.t 86) (.t 85)))⟩,
       ⟨(some 88), none, (.rd (.ld false 1 (.t 87)))⟩,
       ⟨(some 89), none, (.ac (.callf 81 [(.t 84), (.t 88), (.k (.int .i64 31))]))⟩] [2, 3, 6, 8, 10, 16])) (
    .reg [⟨(some 82), none, (.q (.mov (.t 10)))⟩,
      ⟨(some 83), none, (.q (.bin .add 3 (.t 82) (.k (.int .i64 1))))⟩,
      ⟨(some 10), none, (.q (.mov (.t 83)))⟩] [2, 3, 6, 8, 10, 16])))))) (
  .seq (
  .reg [⟨(some 90), none, (.q (.mov (.t 6)))⟩,
    ⟨(some 91), none, (.ac (.callf 83 [(.t 90)]))⟩,
    ⟨(some 4), none, (.q (.mov (.t 91)))⟩,
    ⟨(some 5), none, (.q (.mov (.k (.bool true))))⟩] [2, 3, 4, 5, 8, 16]) (
  .ret)))))))),
  [.tmp 4, .tmp 5], [2, 3, 16, 8]⟩
noncomputable def g49 : HFn Tryz.prog := ⟨r49, fun K => wslow Tryz.prog K r49.code, fun _ _ hK => wslow_fits hK _ (by decide +kernel)⟩
theorem c49 : chkF Tryz.prog Tryz.f49 r49 = true := by decide +kernel

/-- doubletake/doubletakeref1.Mark -/
def r50 : RFn := ⟨1,
  .seq (
  .reg [⟨(some 2), none, (.q (.mov (.k (.int .i64 0))))⟩] [0]) (
  .seq (
  .reg [⟨(some 3), none, (.q (.mov (.t 0)))⟩,
    ⟨(some 4), none, (.ac (.callf 84 [(.k (.int .i64 7)), (.t 3)]))⟩,
    ⟨(some 5), none, (.q (.bin .shl 3 (.t 4) (.k (.int .u64 31))))⟩,
    ⟨(some 6), none, (.q (.mov (.t 0)))⟩,
    ⟨(some 7), none, (.ac (.callf 84 [(.k (.int .i64 11)), (.t 6)]))⟩,
    ⟨(some 8), none, (.q (.bin .add 3 (.t 5) (.t 7)))⟩,
    ⟨(some 2), none, (.q (.mov (.t 8)))⟩] [2]) (
  .ret)),
  [.tmp 2], []⟩
noncomputable def g50 : HFn Tryz.prog := ⟨r50, fun K => wslow Tryz.prog K r50.code, fun _ _ hK => wslow_fits hK _ (by decide +kernel)⟩
theorem c50 : chkF Tryz.prog Tryz.f50 r50 = true := by decide +kernel

/-! (*doubletake/seal.Log).Rows -/
def o51n0 : List RI := [⟨(some 6), none, (.q (.mov .nils))⟩]
noncomputable def b51n0 (K : KTC) (k : KS) (a0 a1 a2 : AV) (c : KN) (p : KV) : Kr :=
  c [(0, a0), (1, a1), (2, a2)] k
theorem e51n0 (K : KTC) (k : KS) (a0 a1 a2 : AV) (c : KN) (p : KV) : b51n0 K k a0 a1 a2 c p = wReg Tryz.prog K [0, 1, 2] o51n0 [(0, a0), (1, a1), (2, a2)] k c p := by unfold b51n0; kernel_rfl
noncomputable def s51n0 (K : KTC) (e : Env) (k : KS) (c : KN) (p : KV) : Kr := gt e 0 fun a0 => gt e 1 fun a1 => gt e 2 fun a2 => b51n0 K k a0 a1 a2 c p
theorem p51n0 (K : KTC) (K' : KT) (hK : CSound K K') : FitsC Tryz.prog K' (.reg (s51n0 K)) (.reg o51n0 [0, 1, 2]) := fun e k c p y h => by
  obtain ⟨a0, h0, h⟩ := gt_some h
  obtain ⟨a1, h1, h⟩ := gt_some h
  obtain ⟨a2, h2, h⟩ := gt_some h
  exact wreg_fit hK (by decide +kernel) (keep_cons h0 (keep_cons h1 (keep_cons h2 (keep_nil)))) (e51n0 K k a0 a1 a2 c p) h
def o51n1 : List RI := [⟨(some 7), none, (.q (.mov .nils))⟩]
noncomputable def b51n1 (K : KTC) (k : KS) (a0 a1 a2 : AV) (c : KN) (p : KV) : Kr :=
  c [(0, a0), (1, a1), (2, a2), (7, (.slice none 0))] k
theorem e51n1 (K : KTC) (k : KS) (a0 a1 a2 : AV) (c : KN) (p : KV) : b51n1 K k a0 a1 a2 c p = wReg Tryz.prog K [0, 1, 2, 7] o51n1 [(0, a0), (1, a1), (2, a2)] k c p := by unfold b51n1; kernel_rfl
noncomputable def s51n1 (K : KTC) (e : Env) (k : KS) (c : KN) (p : KV) : Kr := gt e 0 fun a0 => gt e 1 fun a1 => gt e 2 fun a2 => b51n1 K k a0 a1 a2 c p
theorem p51n1 (K : KTC) (K' : KT) (hK : CSound K K') : FitsC Tryz.prog K' (.reg (s51n1 K)) (.reg o51n1 [0, 1, 2, 7]) := fun e k c p y h => by
  obtain ⟨a0, h0, h⟩ := gt_some h
  obtain ⟨a1, h1, h⟩ := gt_some h
  obtain ⟨a2, h2, h⟩ := gt_some h
  exact wreg_fit hK (by decide +kernel) (keep_cons h0 (keep_cons h1 (keep_cons h2 (keep_nil)))) (e51n1 K k a0 a1 a2 c p) h
def o51n2 : List RI := [⟨(some 9), none, (.q (.mov (.t 1)))⟩, ⟨(some 8), none, (.q (.mov (.t 9)))⟩]
noncomputable def b51n2 (K : KTC) (k : KS) (a1 a0 a2 a7 : AV) (c : KN) (p : KV) : Kr :=
  c [(0, a0), (2, a2), (7, a7), (8, a1)] k
theorem e51n2 (K : KTC) (k : KS) (a1 a0 a2 a7 : AV) (c : KN) (p : KV) : b51n2 K k a1 a0 a2 a7 c p = wReg Tryz.prog K [0, 2, 7, 8] o51n2 [(1, a1), (0, a0), (2, a2), (7, a7)] k c p := by unfold b51n2; kernel_rfl
noncomputable def s51n2 (K : KTC) (e : Env) (k : KS) (c : KN) (p : KV) : Kr := gt e 1 fun a1 => gt e 0 fun a0 => gt e 2 fun a2 => gt e 7 fun a7 => b51n2 K k a1 a0 a2 a7 c p
theorem p51n2 (K : KTC) (K' : KT) (hK : CSound K K') : FitsC Tryz.prog K' (.reg (s51n2 K)) (.reg o51n2 [0, 2, 7, 8]) := fun e k c p y h => by
  obtain ⟨a1, h1, h⟩ := gt_some h
  obtain ⟨a0, h0, h⟩ := gt_some h
  obtain ⟨a2, h2, h⟩ := gt_some h
  obtain ⟨a7, h7, h⟩ := gt_some h
  exact wreg_fit hK (by decide +kernel) (keep_cons h1 (keep_cons h0 (keep_cons h2 (keep_cons h7 (keep_nil))))) (e51n2 K k a1 a0 a2 a7 c p) h
def o51n3 : List RI := [⟨(some 10), none, (.q (.mov (.t 8)))⟩, ⟨(some 11), none, (.q (.bin .geq 3 (.t 10) (.k (.int .i64 0))))⟩, ⟨(some 12), none, (.q (.mov (.t 11)))⟩, ⟨(some 13), (some (12, true)), (.q (.mov (.t 8)))⟩, ⟨(some 14), (some (12, true)), (.q (.mov (.t 0)))⟩, ⟨(some 15), (some (12, true)), (.q (.nchk (.t 14)))⟩, ⟨(some 16), (some (12, true)), (.q (.fld 1 10 (.t 15)))⟩, ⟨(some 17), (some (12, true)), (.rd (.ld false 1 (.t 16)))⟩, ⟨(some 18), (some (12, true)), (.q (.len false (.t 17)))⟩, ⟨(some 19), (some (12, true)), (.q (.bin .lss 3 (.t 13) (.t 18)))⟩, ⟨(some 20), none, (.q (.pick (.t 12) (.t 19) (.k (.bool false))))⟩, ⟨(some 21), none, (.q (.mov (.t 20)))⟩, ⟨(some 22), (some (21, true)), (.q (.mov (.t 7)))⟩, ⟨(some 23), (some (21, true)), (.q (.len false (.t 22)))⟩, ⟨(some 24), (some (21, true)), (.q (.mov (.t 2)))⟩, ⟨(some 25), (some (21, true)), (.q (.bin .lss 3 (.t 23) (.t 24)))⟩, ⟨(some 26), none, (.q (.pick (.t 21) (.t 25) (.k (.bool false))))⟩]
def o51n4 : List RI := [⟨(some 29), none, (.q (.mov (.t 7)))⟩, ⟨(some 30), none, (.q (.mov (.t 0)))⟩, ⟨(some 31), none, (.q (.nchk (.t 30)))⟩, ⟨(some 32), none, (.q (.fld 1 10 (.t 31)))⟩, ⟨(some 33), none, (.rd (.ld false 1 (.t 32)))⟩, ⟨(some 34), none, (.q (.mov (.t 8)))⟩, ⟨(some 35), none, (.q (.ixs 1 (.t 33) (.t 34)))⟩, ⟨(some 36), none, (.rd (.ld false 1 (.t 35)))⟩, ⟨(some 37), none, (.ac (.callf 85 [(.t 36)]))⟩, ⟨(some 38), none, (.al (.bldS 1 1 (.slice none 0) [(0, (.t 37))]))⟩, ⟨(some 39), none, (.ac (.app true 1 24 (.t 29) (.t 38)))⟩, ⟨(some 7), none, (.q (.mov (.t 39)))⟩]
noncomputable def b51n4 (K : KTC) (k : KS) (a7 a0 a8 a2 : AV) (c : KN) (p : KV) : Kr :=
  xLdf k.t 1 10 false 1 a0 fun v0 =>
  xIxl k.t 1 false 1 v0 a8 fun v1 =>
  K 85 [v1] k (fun v2 k2 =>
  xBld1 (.slice none 0) v2 k2 fun v3 k3 =>
  xApp k3 1 24 a7 v3 (fun v4 k4 =>
  c [(0, a0), (2, a2), (7, v4), (8, a8)] k4) (p)) (p)
theorem e51n4 (K : KTC) (k : KS) (a7 a0 a8 a2 : AV) (c : KN) (p : KV) : b51n4 K k a7 a0 a8 a2 c p = wReg Tryz.prog K [0, 2, 7, 8] o51n4 [(7, a7), (0, a0), (8, a8), (2, a2)] k c p := by unfold b51n4; simp only [xApp_eq, xBld1_eq, xIxl_eq, xLdf_eq]; kernel_rfl
noncomputable def s51n4 (K : KTC) (e : Env) (k : KS) (c : KN) (p : KV) : Kr := gt e 7 fun a7 => gt e 0 fun a0 => gt e 8 fun a8 => gt e 2 fun a2 => b51n4 K k a7 a0 a8 a2 c p
theorem p51n4 (K : KTC) (K' : KT) (hK : CSound K K') : FitsC Tryz.prog K' (.reg (s51n4 K)) (.reg o51n4 [0, 2, 7, 8]) := fun e k c p y h => by
  obtain ⟨a7, h7, h⟩ := gt_some h
  obtain ⟨a0, h0, h⟩ := gt_some h
  obtain ⟨a8, h8, h⟩ := gt_some h
  obtain ⟨a2, h2, h⟩ := gt_some h
  exact wreg_fit hK (by decide +kernel) (keep_cons h7 (keep_cons h0 (keep_cons h8 (keep_cons h2 (keep_nil))))) (e51n4 K k a7 a0 a8 a2 c p) h
def o51n5 : List RI := [⟨(some 27), none, (.q (.mov (.t 8)))⟩, ⟨(some 28), none, (.q (.bin .add 3 (.t 27) (.k (.int .i64 1))))⟩, ⟨(some 8), none, (.q (.mov (.t 28)))⟩]
noncomputable def b51n5 (K : KTC) (k : KS) (a8 a0 a2 a7 : AV) (c : KN) (p : KV) : Kr :=
  xAdd 3 a8 (.sc (.int .i64 1)) fun v0 =>
  c [(0, a0), (2, a2), (7, a7), (8, v0)] k
theorem e51n5 (K : KTC) (k : KS) (a8 a0 a2 a7 : AV) (c : KN) (p : KV) : b51n5 K k a8 a0 a2 a7 c p = wReg Tryz.prog K [0, 2, 7, 8] o51n5 [(8, a8), (0, a0), (2, a2), (7, a7)] k c p := by unfold b51n5; simp only [xAdd_eq]; kernel_rfl
noncomputable def s51n5 (K : KTC) (e : Env) (k : KS) (c : KN) (p : KV) : Kr := gt e 8 fun a8 => gt e 0 fun a0 => gt e 2 fun a2 => gt e 7 fun a7 => b51n5 K k a8 a0 a2 a7 c p
theorem p51n5 (K : KTC) (K' : KT) (hK : CSound K K') : FitsC Tryz.prog K' (.reg (s51n5 K)) (.reg o51n5 [0, 2, 7, 8]) := fun e k c p y h => by
  obtain ⟨a8, h8, h⟩ := gt_some h
  obtain ⟨a0, h0, h⟩ := gt_some h
  obtain ⟨a2, h2, h⟩ := gt_some h
  obtain ⟨a7, h7, h⟩ := gt_some h
  exact wreg_fit hK (by decide +kernel) (keep_cons h8 (keep_cons h0 (keep_cons h2 (keep_cons h7 (keep_nil))))) (e51n5 K k a8 a0 a2 a7 c p) h
def o51n6 : List RI := [⟨(some 40), none, (.q (.mov (.t 7)))⟩, ⟨(some 6), none, (.q (.mov (.t 40)))⟩]
noncomputable def b51n6 (K : KTC) (k : KS) (a7 : AV) (c : KN) (p : KV) : Kr :=
  c [(6, a7)] k
theorem e51n6 (K : KTC) (k : KS) (a7 : AV) (c : KN) (p : KV) : b51n6 K k a7 c p = wReg Tryz.prog K [6] o51n6 [(7, a7)] k c p := by unfold b51n6; kernel_rfl
noncomputable def s51n6 (K : KTC) (e : Env) (k : KS) (c : KN) (p : KV) : Kr := gt e 7 fun a7 => b51n6 K k a7 c p
theorem p51n6 (K : KTC) (K' : KT) (hK : CSound K K') : FitsC Tryz.prog K' (.reg (s51n6 K)) (.reg o51n6 [6]) := fun e k c p y h => by
  obtain ⟨a7, h7, h⟩ := gt_some h
  exact wreg_fit hK (by decide +kernel) (keep_cons h7 (keep_nil)) (e51n6 K k a7 c p) h
def r51 : RFn := ⟨3, .seq (.reg o51n0 [0, 1, 2]) (.seq (.reg o51n1 [0, 1, 2, 7]) (.seq (.seq (.reg o51n2 [0, 2, 7, 8]) (.block 0 (.loop [0, 2, 7, 8] (.seq (.seq (.reg o51n3 [0, 2, 7, 8, 26]) (.cond (.t 26) (.skip) (.exit 0))) (.seq (.block 1 (.reg o51n4 [0, 2, 7, 8])) (.reg o51n5 [0, 2, 7, 8])))))) (.seq (.reg o51n6 [6]) (.ret)))), [.tmp 6], []⟩
noncomputable def q51 (K : KTC) : FK := .seq (.reg (s51n0 K)) (.seq (.reg (s51n1 K)) (.seq (.seq (.reg (s51n2 K)) (.block 0 (.loop [0, 2, 7, 8] (.seq (.seq (.reg fun e k c p => wReg Tryz.prog K [0, 2, 7, 8, 26] o51n3 e k c p) (.cond (.t 26) (.skip) (.exit 0))) (.seq (.block 1 (.reg (s51n4 K))) (.reg (s51n5 K))))))) (.seq (.reg (s51n6 K)) (.ret))))
theorem ok51 (K : KTC) (K' : KT) (hK : CSound K K') : FitsC Tryz.prog K' (q51 K) r51.code := hs (p51n0 K _ hK) (hs (p51n1 K _ hK) (hs (hs (p51n2 K _ hK) (hb (hl (by decide +kernel) (hs (hs (wslow_reg hK) (hc (hk) (hx))) (hs (hb (p51n4 K _ hK)) (p51n5 K _ hK)))))) (hs (p51n6 K _ hK) (hr))))
noncomputable def g51 : HFn Tryz.prog := ⟨r51, q51, ok51⟩
theorem c51 : chkF Tryz.prog Tryz.f51 r51 = true := by decide +kernel

/-- (*doubletake/gate.Gate).Counts -/
def r52 : RFn := ⟨1,
  .seq (
  .reg [⟨(some 2), none, (.al (.alloc (.arr 1 (List.replicate 6 (.sc (.int .i64 0))))))⟩] [0, 2]) (
  .seq (
  .reg [⟨(some 3), none, (.q (.mov (.t 0)))⟩,
    ⟨(some 4), none, (.q (.nchk (.t 3)))⟩,
    ⟨(some 5), none, (.q (.fld 1 1 (.t 4)))⟩,
    ⟨(some 6), none, (.rd (.ld true 6 (.t 5)))⟩,
    ⟨none, none, (.ac (.st 6 (.t 2) (.t 6)))⟩] [2]) (
  .ret)),
  [.cell 2 true 6], [2]⟩
noncomputable def g52 : HFn Tryz.prog := ⟨r52, fun K => wslow Tryz.prog K r52.code, fun _ _ hK => wslow_fits hK _ (by decide +kernel)⟩
theorem c52 : chkF Tryz.prog Tryz.f52 r52 = true := by decide +kernel

/-- (*doubletake/seal.Log).Ended -/
def r53 : RFn := ⟨1,
  .seq (
  .reg [⟨(some 2), none, (.q (.mov (.k (.bool false))))⟩] [0]) (
  .seq (
  .draw [(0, ⟨(some 3), none, (.q (.mov (.t 0)))⟩, 0),
    (1, ⟨(some 4), none, (.q (.nchk (.t 3)))⟩, 0),
    (2, ⟨(some 5), none, (.q (.fld 1 10 (.t 4)))⟩, 0),
    (3, ⟨(some 6), none, (.rd (.ld false 1 (.t 5)))⟩, 0),
    (4, ⟨(some 7), none, (.q (.len false (.t 6)))⟩, 0),
    (5, ⟨(some 8), none, (.q (.mov (.t 0)))⟩, 0),
    (6, ⟨(some 9), none, (.q (.nchk (.t 8)))⟩, 0),
    (7, ⟨(some 10), none, (.q (.fld 0 0 (.t 9)))⟩, 0),
    (8, ⟨(some 11), none, (.q (.fld 4 4 (.t 10)))⟩, 0),
    (9, ⟨(some 12), none, (.rd (.ld false 1 (.t 11)))⟩, 0),
    (10, ⟨(some 13), none, (.q (.bin .eql 3 (.t 7) (.t 12)))⟩, 0),
    (11, ⟨(some 2), none, (.q (.mov (.t 13)))⟩, 0)] [2]) (
  .ret)),
  [.tmp 2], []⟩
noncomputable def g53 : HFn Tryz.prog := ⟨r53, fun K => wslow Tryz.prog K r53.code, fun _ _ hK => wslow_fits hK _ (by decide +kernel)⟩
theorem c53 : chkF Tryz.prog Tryz.f53 r53 = true := by decide +kernel

/-! doubletake/doubletakeref15.Right -/
def o60n0 : List RI := [⟨(some 1), none, (.al (.box (.t 0)))⟩, ⟨(some 2), none, (.q (.mov (.k (.bool false))))⟩]
noncomputable def b60n0 (K : KTC) (k : KS) (a0 : AV) (c : KN) (p : KV) : Kr :=
  pAl (evAl [(0, a0)] k.nx (.box (.t 0))) k fun v0 k0 =>
  c [(1, v0)] k0
theorem e60n0 (K : KTC) (k : KS) (a0 : AV) (c : KN) (p : KV) : b60n0 K k a0 c p = wReg Tryz.prog K [1] o60n0 [(0, a0)] k c p := by unfold b60n0; kernel_rfl
noncomputable def s60n0 (K : KTC) (e : Env) (k : KS) (c : KN) (p : KV) : Kr := gt e 0 fun a0 => b60n0 K k a0 c p
theorem p60n0 (K : KTC) (K' : KT) (hK : CSound K K') : FitsC Tryz.prog K' (.reg (s60n0 K)) (.reg o60n0 [1]) := fun e k c p y h => by
  obtain ⟨a0, h0, h⟩ := gt_some h
  exact wreg_fit hK (by decide +kernel) (keep_cons h0 (keep_nil)) (e60n0 K k a0 c p) h
def o60n1 : List RI := [⟨(some 7), none, (.q (.fld 0 0 (.t 1)))⟩, ⟨(some 8), none, (.rd (.ld false 1 (.t 7)))⟩, ⟨(some 9), none, (.ac (.callf 96 [(.t 8), (.k (.int .i64 1)), (.k (.int .i64 6))]))⟩, ⟨(some 10), none, (.q (.un .not (.t 9)))⟩, ⟨(some 11), none, (.q (.mov (.t 10)))⟩, ⟨(some 12), (some (11, false)), (.q (.fld 1 1 (.t 1)))⟩, ⟨(some 13), (some (11, false)), (.rd (.ld false 1 (.t 12)))⟩, ⟨(some 14), (some (11, false)), (.ac (.callf 96 [(.t 13), (.k (.int .i64 0)), (.k (.int .i64 7))]))⟩, ⟨(some 15), (some (11, false)), (.q (.un .not (.t 14)))⟩, ⟨(some 16), none, (.q (.pick (.t 11) (.k (.bool true)) (.t 15)))⟩, ⟨(some 17), none, (.q (.mov (.t 16)))⟩, ⟨(some 18), (some (17, false)), (.q (.fld 2 2 (.t 1)))⟩, ⟨(some 19), (some (17, false)), (.rd (.ld false 1 (.t 18)))⟩, ⟨(some 20), (some (17, false)), (.ac (.callf 96 [(.t 19), (.k (.int .i64 0)), (.k (.int .i64 65535))]))⟩, ⟨(some 21), (some (17, false)), (.q (.un .not (.t 20)))⟩, ⟨(some 22), none, (.q (.pick (.t 17) (.k (.bool true)) (.t 21)))⟩, ⟨(some 23), none, (.q (.mov (.t 22)))⟩, ⟨(some 24), (some (23, false)), (.q (.fld 3 3 (.t 1)))⟩, ⟨(some 25), (some (23, false)), (.rd (.ld false 1 (.t 24)))⟩, ⟨(some 26), (some (23, false)), (.ac (.callf 96 [(.t 25), (.k (.int .i64 0)), (.k (.int .i64 65535))]))⟩, ⟨(some 27), (some (23, false)), (.q (.un .not (.t 26)))⟩, ⟨(some 28), none, (.q (.pick (.t 23) (.k (.bool true)) (.t 27)))⟩, ⟨(some 29), none, (.q (.mov (.t 28)))⟩, ⟨(some 30), (some (29, false)), (.q (.fld 4 4 (.t 1)))⟩, ⟨(some 31), (some (29, false)), (.rd (.ld false 1 (.t 30)))⟩, ⟨(some 32), (some (29, false)), (.q (.un .not (.t 31)))⟩, ⟨(some 33), (some (29, false)), (.q (.mov (.t 32)))⟩, ⟨(some 34), (some (33, true)), (.q (.fld 3 3 (.t 1)))⟩, ⟨(some 35), (some (33, true)), (.rd (.ld false 1 (.t 34)))⟩, ⟨(some 36), (some (33, true)), (.q (.bin .neq 3 (.t 35) (.k (.int .i64 0))))⟩, ⟨(some 37), (some (33, true)), (.q (.mov (.t 36)))⟩, ⟨(some 38), (some (37, false)), (.q (.fld 5 5 (.t 1)))⟩, ⟨(some 39), (some (37, false)), (.rd (.ld false 1 (.t 38)))⟩, ⟨(some 40), (some (37, false)), (.q (.bin .neq 39 (.t 39) (.k (.int .u64 0))))⟩, ⟨(some 41), (some (33, true)), (.q (.pick (.t 37) (.k (.bool true)) (.t 40)))⟩, ⟨(some 42), (some (29, false)), (.q (.pick (.t 33) (.t 41) (.k (.bool false))))⟩, ⟨(some 43), none, (.q (.pick (.t 29) (.k (.bool true)) (.t 42)))⟩]
def o60n2 : List RI := [⟨(some 2), none, (.q (.mov (.k (.bool false))))⟩]
noncomputable def b60n2 (K : KTC) (k : KS) (a1 : AV) (c : KN) (p : KV) : Kr :=
  c [(1, a1), (2, (.sc (.bool false)))] k
theorem e60n2 (K : KTC) (k : KS) (a1 : AV) (c : KN) (p : KV) : b60n2 K k a1 c p = wReg Tryz.prog K [1, 2] o60n2 [(1, a1)] k c p := by unfold b60n2; kernel_rfl
noncomputable def s60n2 (K : KTC) (e : Env) (k : KS) (c : KN) (p : KV) : Kr := gt e 1 fun a1 => b60n2 K k a1 c p
theorem p60n2 (K : KTC) (K' : KT) (hK : CSound K K') : FitsC Tryz.prog K' (.reg (s60n2 K)) (.reg o60n2 [1, 2]) := fun e k c p y h => by
  obtain ⟨a1, h1, h⟩ := gt_some h
  exact wreg_fit hK (by decide +kernel) (keep_cons h1 (keep_nil)) (e60n2 K k a1 c p) h
def o60n3 : List RI := [⟨(some 3), none, (.q (.mov (.k (.int .i64 0))))⟩]
noncomputable def b60n3 (K : KTC) (k : KS) (a1 : AV) (c : KN) (p : KV) : Kr :=
  c [(1, a1), (3, (.sc (.int .i64 0)))] k
theorem e60n3 (K : KTC) (k : KS) (a1 : AV) (c : KN) (p : KV) : b60n3 K k a1 c p = wReg Tryz.prog K [1, 3] o60n3 [(1, a1)] k c p := by unfold b60n3; kernel_rfl
noncomputable def s60n3 (K : KTC) (e : Env) (k : KS) (c : KN) (p : KV) : Kr := gt e 1 fun a1 => b60n3 K k a1 c p
theorem p60n3 (K : KTC) (K' : KT) (hK : CSound K K') : FitsC Tryz.prog K' (.reg (s60n3 K)) (.reg o60n3 [1, 3]) := fun e k c p y h => by
  obtain ⟨a1, h1, h⟩ := gt_some h
  exact wreg_fit hK (by decide +kernel) (keep_cons h1 (keep_nil)) (e60n3 K k a1 c p) h
def o60n4 : List RI := [⟨(some 44), none, (.q (.mov (.t 3)))⟩, ⟨(some 45), none, (.q (.fld 8 8 (.t 1)))⟩, ⟨(some 46), none, (.rd (.ld false 1 (.t 45)))⟩, ⟨(some 47), none, (.q (.len false (.t 46)))⟩, ⟨(some 48), none, (.q (.bin .lss 3 (.t 44) (.t 47)))⟩]
noncomputable def b60n4 (K : KTC) (k : KS) (a3 a1 : AV) (c : KN) (p : KV) : Kr :=
  xFld 8 8 a1 fun v0 =>
  xLd k.t false 1 v0 fun v1 =>
  xLen v1 fun v2 =>
  xLss 3 a3 v2 fun v3 =>
  c [(1, a1), (3, a3), (48, v3)] k
theorem e60n4 (K : KTC) (k : KS) (a3 a1 : AV) (c : KN) (p : KV) : b60n4 K k a3 a1 c p = wReg Tryz.prog K [1, 3, 48] o60n4 [(3, a3), (1, a1)] k c p := by unfold b60n4; simp only [xLss_eq, xLen_eq, xLd_eq, xFld_eq]; kernel_rfl
noncomputable def s60n4 (K : KTC) (e : Env) (k : KS) (c : KN) (p : KV) : Kr := gt e 3 fun a3 => gt e 1 fun a1 => b60n4 K k a3 a1 c p
theorem p60n4 (K : KTC) (K' : KT) (hK : CSound K K') : FitsC Tryz.prog K' (.reg (s60n4 K)) (.reg o60n4 [1, 3, 48]) := fun e k c p y h => by
  obtain ⟨a3, h3, h⟩ := gt_some h
  obtain ⟨a1, h1, h⟩ := gt_some h
  exact wreg_fit hK (by decide +kernel) (keep_cons h3 (keep_cons h1 (keep_nil))) (e60n4 K k a3 a1 c p) h
def o60n5 : List RI := [⟨(some 51), none, (.q (.fld 8 8 (.t 1)))⟩, ⟨(some 52), none, (.rd (.ld false 1 (.t 51)))⟩, ⟨(some 53), none, (.q (.mov (.t 3)))⟩, ⟨(some 54), none, (.q (.ixs 3 (.t 52) (.t 53)))⟩, ⟨(some 55), none, (.rd (.ld true 3 (.t 54)))⟩, ⟨(some 56), none, (.ac (.callf 97 [(.t 55)]))⟩, ⟨(some 57), none, (.q (.un .not (.t 56)))⟩]
noncomputable def b60n5 (K : KTC) (k : KS) (a1 a3 : AV) (c : KN) (p : KV) : Kr :=
  xFld 8 8 a1 fun v0 =>
  xLd k.t false 1 v0 fun v1 =>
  xIxl k.t 3 true 3 v1 a3 fun v2 =>
  K 97 [v2] k (fun v3 k3 =>
  (kQ Tryz.prog [(56, v3)] (.un .not (.t 56))).bind fun v4 =>
  c [(1, a1), (3, a3), (57, v4)] k3) (p)
theorem e60n5 (K : KTC) (k : KS) (a1 a3 : AV) (c : KN) (p : KV) : b60n5 K k a1 a3 c p = wReg Tryz.prog K [1, 3, 57] o60n5 [(1, a1), (3, a3)] k c p := by unfold b60n5; simp only [xIxl_eq, xLd_eq, xFld_eq]; kernel_rfl
noncomputable def s60n5 (K : KTC) (e : Env) (k : KS) (c : KN) (p : KV) : Kr := gt e 1 fun a1 => gt e 3 fun a3 => b60n5 K k a1 a3 c p
theorem p60n5 (K : KTC) (K' : KT) (hK : CSound K K') : FitsC Tryz.prog K' (.reg (s60n5 K)) (.reg o60n5 [1, 3, 57]) := fun e k c p y h => by
  obtain ⟨a1, h1, h⟩ := gt_some h
  obtain ⟨a3, h3, h⟩ := gt_some h
  exact wreg_fit hK (by decide +kernel) (keep_cons h1 (keep_cons h3 (keep_nil))) (e60n5 K k a1 a3 c p) h
def o60n6 : List RI := [⟨(some 2), none, (.q (.mov (.k (.bool false))))⟩]
noncomputable def b60n6 (K : KTC) (k : KS) (a1 : AV) (c : KN) (p : KV) : Kr :=
  c [(1, a1), (2, (.sc (.bool false)))] k
theorem e60n6 (K : KTC) (k : KS) (a1 : AV) (c : KN) (p : KV) : b60n6 K k a1 c p = wReg Tryz.prog K [1, 2] o60n6 [(1, a1)] k c p := by unfold b60n6; kernel_rfl
noncomputable def s60n6 (K : KTC) (e : Env) (k : KS) (c : KN) (p : KV) : Kr := gt e 1 fun a1 => b60n6 K k a1 c p
theorem p60n6 (K : KTC) (K' : KT) (hK : CSound K K') : FitsC Tryz.prog K' (.reg (s60n6 K)) (.reg o60n6 [1, 2]) := fun e k c p y h => by
  obtain ⟨a1, h1, h⟩ := gt_some h
  exact wreg_fit hK (by decide +kernel) (keep_cons h1 (keep_nil)) (e60n6 K k a1 c p) h
def o60n7 : List RI := [⟨(some 49), none, (.q (.mov (.t 3)))⟩, ⟨(some 50), none, (.q (.bin .add 3 (.t 49) (.k (.int .i64 1))))⟩, ⟨(some 3), none, (.q (.mov (.t 50)))⟩]
noncomputable def b60n7 (K : KTC) (k : KS) (a3 a1 : AV) (c : KN) (p : KV) : Kr :=
  xAdd 3 a3 (.sc (.int .i64 1)) fun v0 =>
  c [(1, a1), (3, v0)] k
theorem e60n7 (K : KTC) (k : KS) (a3 a1 : AV) (c : KN) (p : KV) : b60n7 K k a3 a1 c p = wReg Tryz.prog K [1, 3] o60n7 [(3, a3), (1, a1)] k c p := by unfold b60n7; simp only [xAdd_eq]; kernel_rfl
noncomputable def s60n7 (K : KTC) (e : Env) (k : KS) (c : KN) (p : KV) : Kr := gt e 3 fun a3 => gt e 1 fun a1 => b60n7 K k a3 a1 c p
theorem p60n7 (K : KTC) (K' : KT) (hK : CSound K K') : FitsC Tryz.prog K' (.reg (s60n7 K)) (.reg o60n7 [1, 3]) := fun e k c p y h => by
  obtain ⟨a3, h3, h⟩ := gt_some h
  obtain ⟨a1, h1, h⟩ := gt_some h
  exact wreg_fit hK (by decide +kernel) (keep_cons h3 (keep_cons h1 (keep_nil))) (e60n7 K k a3 a1 c p) h
def o60n8 : List RI := [⟨(some 58), none, (.q (.fld 0 0 (.t 1)))⟩, ⟨(some 59), none, (.rd (.ld false 1 (.t 58)))⟩, ⟨(some 60), none, (.q (.bin .eql 3 (.t 59) (.k (.int .i64 2))))⟩, ⟨(some 4), none, (.q (.mov (.t 60)))⟩]
noncomputable def b60n8 (K : KTC) (k : KS) (a1 : AV) (c : KN) (p : KV) : Kr :=
  xFld 0 0 a1 fun v0 =>
  xLd k.t false 1 v0 fun v1 =>
  xEql 3 v1 (.sc (.int .i64 2)) fun v2 =>
  c [(1, a1), (4, v2)] k
theorem e60n8 (K : KTC) (k : KS) (a1 : AV) (c : KN) (p : KV) : b60n8 K k a1 c p = wReg Tryz.prog K [1, 4] o60n8 [(1, a1)] k c p := by unfold b60n8; simp only [xEql_eq, xLd_eq, xFld_eq]; kernel_rfl
noncomputable def s60n8 (K : KTC) (e : Env) (k : KS) (c : KN) (p : KV) : Kr := gt e 1 fun a1 => b60n8 K k a1 c p
theorem p60n8 (K : KTC) (K' : KT) (hK : CSound K K') : FitsC Tryz.prog K' (.reg (s60n8 K)) (.reg o60n8 [1, 4]) := fun e k c p y h => by
  obtain ⟨a1, h1, h⟩ := gt_some h
  exact wreg_fit hK (by decide +kernel) (keep_cons h1 (keep_nil)) (e60n8 K k a1 c p) h
def o60n9 : List RI := [⟨(some 61), none, (.q (.fld 0 0 (.t 1)))⟩, ⟨(some 62), none, (.rd (.ld false 1 (.t 61)))⟩, ⟨(some 63), none, (.q (.bin .eql 3 (.t 62) (.k (.int .i64 3))))⟩, ⟨(some 5), none, (.q (.mov (.t 63)))⟩]
noncomputable def b60n9 (K : KTC) (k : KS) (a1 a4 : AV) (c : KN) (p : KV) : Kr :=
  xFld 0 0 a1 fun v0 =>
  xLd k.t false 1 v0 fun v1 =>
  xEql 3 v1 (.sc (.int .i64 3)) fun v2 =>
  c [(1, a1), (4, a4), (5, v2)] k
theorem e60n9 (K : KTC) (k : KS) (a1 a4 : AV) (c : KN) (p : KV) : b60n9 K k a1 a4 c p = wReg Tryz.prog K [1, 4, 5] o60n9 [(1, a1), (4, a4)] k c p := by unfold b60n9; simp only [xEql_eq, xLd_eq, xFld_eq]; kernel_rfl
noncomputable def s60n9 (K : KTC) (e : Env) (k : KS) (c : KN) (p : KV) : Kr := gt e 1 fun a1 => gt e 4 fun a4 => b60n9 K k a1 a4 c p
theorem p60n9 (K : KTC) (K' : KT) (hK : CSound K K') : FitsC Tryz.prog K' (.reg (s60n9 K)) (.reg o60n9 [1, 4, 5]) := fun e k c p y h => by
  obtain ⟨a1, h1, h⟩ := gt_some h
  obtain ⟨a4, h4, h⟩ := gt_some h
  exact wreg_fit hK (by decide +kernel) (keep_cons h1 (keep_cons h4 (keep_nil))) (e60n9 K k a1 a4 c p) h
def o60n10 : List RI := [⟨(some 64), none, (.q (.fld 0 0 (.t 1)))⟩, ⟨(some 65), none, (.rd (.ld false 1 (.t 64)))⟩, ⟨(some 66), none, (.q (.bin .eql 3 (.t 65) (.k (.int .i64 4))))⟩, ⟨(some 6), none, (.q (.mov (.t 66)))⟩]
noncomputable def b60n10 (K : KTC) (k : KS) (a1 a4 a5 : AV) (c : KN) (p : KV) : Kr :=
  xFld 0 0 a1 fun v0 =>
  xLd k.t false 1 v0 fun v1 =>
  xEql 3 v1 (.sc (.int .i64 4)) fun v2 =>
  c [(1, a1), (4, a4), (5, a5), (6, v2)] k
theorem e60n10 (K : KTC) (k : KS) (a1 a4 a5 : AV) (c : KN) (p : KV) : b60n10 K k a1 a4 a5 c p = wReg Tryz.prog K [1, 4, 5, 6] o60n10 [(1, a1), (4, a4), (5, a5)] k c p := by unfold b60n10; simp only [xEql_eq, xLd_eq, xFld_eq]; kernel_rfl
noncomputable def s60n10 (K : KTC) (e : Env) (k : KS) (c : KN) (p : KV) : Kr := gt e 1 fun a1 => gt e 4 fun a4 => gt e 5 fun a5 => b60n10 K k a1 a4 a5 c p
theorem p60n10 (K : KTC) (K' : KT) (hK : CSound K K') : FitsC Tryz.prog K' (.reg (s60n10 K)) (.reg o60n10 [1, 4, 5, 6]) := fun e k c p y h => by
  obtain ⟨a1, h1, h⟩ := gt_some h
  obtain ⟨a4, h4, h⟩ := gt_some h
  obtain ⟨a5, h5, h⟩ := gt_some h
  exact wreg_fit hK (by decide +kernel) (keep_cons h1 (keep_cons h4 (keep_cons h5 (keep_nil)))) (e60n10 K k a1 a4 a5 c p) h
def o60n11 : List RI := [⟨(some 68), none, (.q (.mov (.t 4)))⟩, ⟨(some 69), none, (.q (.mov (.t 68)))⟩, ⟨(some 70), (some (69, true)), (.q (.fld 6 6 (.t 1)))⟩, ⟨(some 71), (some (69, true)), (.rd (.ld false 1 (.t 70)))⟩, ⟨(some 72), (some (69, true)), (.ac (.callf 96 [(.t 71), (.k (.int .i64 0)), (.k (.int .i64 600))]))⟩, ⟨(some 73), (some (69, true)), (.q (.un .not (.t 72)))⟩, ⟨(some 74), (some (69, true)), (.q (.mov (.t 73)))⟩, ⟨(some 75), (some (74, false)), (.q (.fld 7 7 (.t 1)))⟩, ⟨(some 76), (some (74, false)), (.rd (.ld false 1 (.t 75)))⟩, ⟨(some 77), (some (74, false)), (.ac (.callf 96 [(.t 76), (.k (.int .i64 0)), (.k (.int .i64 600))]))⟩, ⟨(some 78), (some (74, false)), (.q (.un .not (.t 77)))⟩, ⟨(some 79), (some (69, true)), (.q (.pick (.t 74) (.k (.bool true)) (.t 78)))⟩, ⟨(some 80), (some (69, true)), (.q (.mov (.t 79)))⟩, ⟨(some 81), (some (80, false)), (.q (.fld 8 8 (.t 1)))⟩, ⟨(some 82), (some (80, false)), (.rd (.ld false 1 (.t 81)))⟩, ⟨(some 83), (some (80, false)), (.q (.len false (.t 82)))⟩, ⟨(some 84), (some (80, false)), (.q (.bin .gtr 3 (.t 83) (.k (.int .i64 16))))⟩, ⟨(some 85), (some (69, true)), (.q (.pick (.t 80) (.k (.bool true)) (.t 84)))⟩, ⟨(some 86), none, (.q (.pick (.t 69) (.t 85) (.k (.bool false))))⟩, ⟨(some 67), none, (.q (.mov (.t 86)))⟩]
def o60n12 : List RI := [⟨(some 2), none, (.q (.mov (.k (.bool false))))⟩]
noncomputable def b60n12 (K : KTC) (k : KS) (a1 : AV) (c : KN) (p : KV) : Kr :=
  c [(1, a1), (2, (.sc (.bool false)))] k
theorem e60n12 (K : KTC) (k : KS) (a1 : AV) (c : KN) (p : KV) : b60n12 K k a1 c p = wReg Tryz.prog K [1, 2] o60n12 [(1, a1)] k c p := by unfold b60n12; kernel_rfl
noncomputable def s60n12 (K : KTC) (e : Env) (k : KS) (c : KN) (p : KV) : Kr := gt e 1 fun a1 => b60n12 K k a1 c p
theorem p60n12 (K : KTC) (K' : KT) (hK : CSound K K') : FitsC Tryz.prog K' (.reg (s60n12 K)) (.reg o60n12 [1, 2]) := fun e k c p y h => by
  obtain ⟨a1, h1, h⟩ := gt_some h
  exact wreg_fit hK (by decide +kernel) (keep_cons h1 (keep_nil)) (e60n12 K k a1 c p) h
def o60n13 : List RI := [⟨(some 88), none, (.q (.mov (.t 5)))⟩, ⟨(some 89), none, (.q (.mov (.t 88)))⟩, ⟨(some 90), (some (89, true)), (.q (.fld 7 7 (.t 1)))⟩, ⟨(some 91), (some (89, true)), (.rd (.ld false 1 (.t 90)))⟩, ⟨(some 92), (some (89, true)), (.ac (.callf 96 [(.t 91), (.k (.int .i64 0)), (.k (.int .i64 600))]))⟩, ⟨(some 93), (some (89, true)), (.q (.un .not (.t 92)))⟩, ⟨(some 94), (some (89, true)), (.q (.mov (.t 93)))⟩, ⟨(some 95), (some (94, false)), (.rd (.ld true 13 (.t 1)))⟩, ⟨(some 96), (some (94, false)), (.ac (.callf 98 [(.t 95)]))⟩, ⟨(some 97), (some (94, false)), (.q (.un .not (.t 96)))⟩, ⟨(some 98), (some (89, true)), (.q (.pick (.t 94) (.k (.bool true)) (.t 97)))⟩, ⟨(some 99), none, (.q (.pick (.t 89) (.t 98) (.k (.bool false))))⟩, ⟨(some 87), none, (.q (.mov (.t 99)))⟩]
def o60n14 : List RI := [⟨(some 2), none, (.q (.mov (.k (.bool false))))⟩]
noncomputable def b60n14 (K : KTC) (k : KS) (a1 : AV) (c : KN) (p : KV) : Kr :=
  c [(1, a1), (2, (.sc (.bool false)))] k
theorem e60n14 (K : KTC) (k : KS) (a1 : AV) (c : KN) (p : KV) : b60n14 K k a1 c p = wReg Tryz.prog K [1, 2] o60n14 [(1, a1)] k c p := by unfold b60n14; kernel_rfl
noncomputable def s60n14 (K : KTC) (e : Env) (k : KS) (c : KN) (p : KV) : Kr := gt e 1 fun a1 => b60n14 K k a1 c p
theorem p60n14 (K : KTC) (K' : KT) (hK : CSound K K') : FitsC Tryz.prog K' (.reg (s60n14 K)) (.reg o60n14 [1, 2]) := fun e k c p y h => by
  obtain ⟨a1, h1, h⟩ := gt_some h
  exact wreg_fit hK (by decide +kernel) (keep_cons h1 (keep_nil)) (e60n14 K k a1 c p) h
def o60n15 : List RI := [⟨(some 101), none, (.q (.mov (.t 6)))⟩, ⟨(some 102), none, (.q (.mov (.t 101)))⟩, ⟨(some 103), (some (102, true)), (.q (.fld 11 11 (.t 1)))⟩, ⟨(some 104), (some (102, true)), (.rd (.ld false 1 (.t 103)))⟩, ⟨(some 105), (some (102, true)), (.ac (.callf 96 [(.t 104), (.k (.int .i64 0)), (.k (.int .i64 600))]))⟩, ⟨(some 106), (some (102, true)), (.q (.un .not (.t 105)))⟩, ⟨(some 107), (some (102, true)), (.q (.mov (.t 106)))⟩, ⟨(some 108), (some (107, false)), (.q (.fld 12 12 (.t 1)))⟩, ⟨(some 109), (some (107, false)), (.rd (.ld false 1 (.t 108)))⟩, ⟨(some 110), (some (107, false)), (.ac (.callf 96 [(.t 109), (.k (.int .i64 0)), (.k (.int .i64 4611686018427387903))]))⟩, ⟨(some 111), (some (107, false)), (.q (.un .not (.t 110)))⟩, ⟨(some 112), (some (102, true)), (.q (.pick (.t 107) (.k (.bool true)) (.t 111)))⟩, ⟨(some 113), none, (.q (.pick (.t 102) (.t 112) (.k (.bool false))))⟩, ⟨(some 100), none, (.q (.mov (.t 113)))⟩]
def o60n16 : List RI := [⟨(some 2), none, (.q (.mov (.k (.bool false))))⟩]
noncomputable def b60n16 (K : KTC) (k : KS) (a1 : AV) (c : KN) (p : KV) : Kr :=
  c [(1, a1), (2, (.sc (.bool false)))] k
theorem e60n16 (K : KTC) (k : KS) (a1 : AV) (c : KN) (p : KV) : b60n16 K k a1 c p = wReg Tryz.prog K [1, 2] o60n16 [(1, a1)] k c p := by unfold b60n16; kernel_rfl
noncomputable def s60n16 (K : KTC) (e : Env) (k : KS) (c : KN) (p : KV) : Kr := gt e 1 fun a1 => b60n16 K k a1 c p
theorem p60n16 (K : KTC) (K' : KT) (hK : CSound K K') : FitsC Tryz.prog K' (.reg (s60n16 K)) (.reg o60n16 [1, 2]) := fun e k c p y h => by
  obtain ⟨a1, h1, h⟩ := gt_some h
  exact wreg_fit hK (by decide +kernel) (keep_cons h1 (keep_nil)) (e60n16 K k a1 c p) h
def o60n17 : List RI := [⟨(some 114), none, (.q (.mov (.t 4)))⟩, ⟨(some 115), none, (.q (.mov (.t 114)))⟩, ⟨(some 116), (some (115, false)), (.q (.fld 6 6 (.t 1)))⟩, ⟨(some 117), (some (115, false)), (.rd (.ld false 1 (.t 116)))⟩, ⟨(some 118), (some (115, false)), (.q (.bin .eql 3 (.t 117) (.k (.int .i64 0))))⟩, ⟨(some 119), (some (115, false)), (.q (.mov (.t 118)))⟩, ⟨(some 120), (some (119, true)), (.q (.fld 8 8 (.t 1)))⟩, ⟨(some 121), (some (119, true)), (.rd (.ld false 1 (.t 120)))⟩, ⟨(some 122), (some (119, true)), (.q (.len false (.t 121)))⟩, ⟨(some 123), (some (119, true)), (.q (.bin .eql 3 (.t 122) (.k (.int .i64 0))))⟩, ⟨(some 124), (some (115, false)), (.q (.pick (.t 119) (.t 123) (.k (.bool false))))⟩, ⟨(some 125), none, (.q (.pick (.t 115) (.k (.bool true)) (.t 124)))⟩, ⟨(some 126), none, (.q (.mov (.t 125)))⟩, ⟨(some 127), (some (126, true)), (.q (.mov (.t 4)))⟩, ⟨(some 128), (some (126, true)), (.q (.mov (.t 127)))⟩, ⟨(some 129), (some (128, false)), (.q (.mov (.t 5)))⟩, ⟨(some 130), (some (126, true)), (.q (.pick (.t 128) (.k (.bool true)) (.t 129)))⟩, ⟨(some 131), (some (126, true)), (.q (.mov (.t 130)))⟩, ⟨(some 132), (some (131, false)), (.q (.fld 7 7 (.t 1)))⟩, ⟨(some 133), (some (131, false)), (.rd (.ld false 1 (.t 132)))⟩, ⟨(some 134), (some (131, false)), (.q (.bin .eql 3 (.t 133) (.k (.int .i64 0))))⟩, ⟨(some 135), (some (126, true)), (.q (.pick (.t 131) (.k (.bool true)) (.t 134)))⟩, ⟨(some 136), none, (.q (.pick (.t 126) (.t 135) (.k (.bool false))))⟩, ⟨(some 137), none, (.q (.mov (.t 136)))⟩, ⟨(some 138), (some (137, true)), (.q (.mov (.t 5)))⟩, ⟨(some 139), (some (137, true)), (.q (.mov (.t 138)))⟩, ⟨(some 140), (some (139, false)), (.q (.fld 9 9 (.t 1)))⟩, ⟨(some 141), (some (139, false)), (.rd (.ld false 1 (.t 140)))⟩, ⟨(some 142), (some (139, false)), (.q (.bin .eql 3 (.t 141) (.k (.int .i64 0))))⟩, ⟨(some 143), (some (139, false)), (.q (.mov (.t 142)))⟩, ⟨(some 144), (some (143, true)), (.q (.fld 10 10 (.t 1)))⟩, ⟨(some 145), (some (143, true)), (.rd (.ld false 1 (.t 144)))⟩, ⟨(some 146), (some (143, true)), (.q (.len false (.t 145)))⟩, ⟨(some 147), (some (143, true)), (.q (.bin .eql 3 (.t 146) (.k (.int .i64 0))))⟩, ⟨(some 148), (some (139, false)), (.q (.pick (.t 143) (.t 147) (.k (.bool false))))⟩, ⟨(some 149), (some (137, true)), (.q (.pick (.t 139) (.k (.bool true)) (.t 148)))⟩, ⟨(some 150), none, (.q (.pick (.t 137) (.t 149) (.k (.bool false))))⟩, ⟨(some 151), none, (.q (.mov (.t 150)))⟩, ⟨(some 152), (some (151, true)), (.q (.mov (.t 6)))⟩, ⟨(some 153), (some (151, true)), (.q (.mov (.t 152)))⟩, ⟨(some 154), (some (153, false)), (.q (.fld 11 11 (.t 1)))⟩, ⟨(some 155), (some (153, false)), (.rd (.ld false 1 (.t 154)))⟩, ⟨(some 156), (some (153, false)), (.q (.bin .eql 3 (.t 155) (.k (.int .i64 0))))⟩, ⟨(some 157), (some (153, false)), (.q (.mov (.t 156)))⟩, ⟨(some 158), (some (157, true)), (.q (.fld 12 12 (.t 1)))⟩, ⟨(some 159), (some (157, true)), (.rd (.ld false 1 (.t 158)))⟩, ⟨(some 160), (some (157, true)), (.q (.bin .eql 3 (.t 159) (.k (.int .i64 0))))⟩, ⟨(some 161), (some (153, false)), (.q (.pick (.t 157) (.t 160) (.k (.bool false))))⟩, ⟨(some 162), (some (151, true)), (.q (.pick (.t 153) (.k (.bool true)) (.t 161)))⟩, ⟨(some 163), none, (.q (.pick (.t 151) (.t 162) (.k (.bool false))))⟩, ⟨(some 2), none, (.q (.mov (.t 163)))⟩]
def r60 : RFn := ⟨1, .seq (.reg o60n0 [1]) (.seq (.seq (.reg o60n1 [1, 43]) (.cond (.t 43) (.seq (.reg o60n2 [1, 2]) (.ret)) (.skip))) (.seq (.seq (.reg o60n3 [1, 3]) (.block 0 (.loop [1, 3] (.seq (.seq (.reg o60n4 [1, 3, 48]) (.cond (.t 48) (.skip) (.exit 0))) (.seq (.block 1 (.seq (.reg o60n5 [1, 3, 57]) (.cond (.t 57) (.seq (.reg o60n6 [1, 2]) (.ret)) (.skip)))) (.reg o60n7 [1, 3])))))) (.seq (.reg o60n8 [1, 4]) (.seq (.reg o60n9 [1, 4, 5]) (.seq (.reg o60n10 [1, 4, 5, 6]) (.seq (.block 2 (.seq (.reg o60n11 [1, 4, 5, 6, 67]) (.cond (.t 67) (.seq (.reg o60n12 [1, 2]) (.ret)) (.seq (.reg o60n13 [1, 4, 5, 6, 87]) (.cond (.t 87) (.seq (.reg o60n14 [1, 2]) (.ret)) (.seq (.reg o60n15 [1, 4, 5, 6, 100]) (.cond (.t 100) (.seq (.reg o60n16 [1, 2]) (.ret)) (.skip)))))))) (.seq (.reg o60n17 [1, 2]) (.ret)))))))), [.tmp 2], [1]⟩
noncomputable def q60 (K : KTC) : FK := .seq (.reg (s60n0 K)) (.seq (.seq (.reg fun e k c p => wReg Tryz.prog K [1, 43] o60n1 e k c p) (.cond (.t 43) (.seq (.reg (s60n2 K)) (.ret)) (.skip))) (.seq (.seq (.reg (s60n3 K)) (.block 0 (.loop [1, 3] (.seq (.seq (.reg (s60n4 K)) (.cond (.t 48) (.skip) (.exit 0))) (.seq (.block 1 (.seq (.reg (s60n5 K)) (.cond (.t 57) (.seq (.reg (s60n6 K)) (.ret)) (.skip)))) (.reg (s60n7 K))))))) (.seq (.reg (s60n8 K)) (.seq (.reg (s60n9 K)) (.seq (.reg (s60n10 K)) (.seq (.block 2 (.seq (.reg fun e k c p => wReg Tryz.prog K [1, 4, 5, 6, 67] o60n11 e k c p) (.cond (.t 67) (.seq (.reg (s60n12 K)) (.ret)) (.seq (.reg fun e k c p => wReg Tryz.prog K [1, 4, 5, 6, 87] o60n13 e k c p) (.cond (.t 87) (.seq (.reg (s60n14 K)) (.ret)) (.seq (.reg fun e k c p => wReg Tryz.prog K [1, 4, 5, 6, 100] o60n15 e k c p) (.cond (.t 100) (.seq (.reg (s60n16 K)) (.ret)) (.skip)))))))) (.seq (.reg fun e k c p => wReg Tryz.prog K [1, 2] o60n17 e k c p) (.ret))))))))
theorem ok60 (K : KTC) (K' : KT) (hK : CSound K K') : FitsC Tryz.prog K' (q60 K) r60.code := hs (p60n0 K _ hK) (hs (hs (wslow_reg hK) (hc (hs (p60n2 K _ hK) (hr)) (hk))) (hs (hs (p60n3 K _ hK) (hb (hl (by decide +kernel) (hs (hs (p60n4 K _ hK) (hc (hk) (hx))) (hs (hb (hs (p60n5 K _ hK) (hc (hs (p60n6 K _ hK) (hr)) (hk)))) (p60n7 K _ hK)))))) (hs (p60n8 K _ hK) (hs (p60n9 K _ hK) (hs (p60n10 K _ hK) (hs (hb (hs (wslow_reg hK) (hc (hs (p60n12 K _ hK) (hr)) (hs (wslow_reg hK) (hc (hs (p60n14 K _ hK) (hr)) (hs (wslow_reg hK) (hc (hs (p60n16 K _ hK) (hr)) (hk)))))))) (hs (wslow_reg hK) (hr))))))))
noncomputable def g60 : HFn Tryz.prog := ⟨r60, q60, ok60⟩
theorem c60 : chkF Tryz.prog Tryz.f60 r60 = true := by decide +kernel

/-- doubletake/doubletakeref1.Close -/
def r61 : RFn := ⟨2,
  .seq (
  .reg [⟨(some 4), none, (.q (.mov .nils))⟩] [0, 1]) (
  .seq (
  .reg [⟨(some 5), none, (.al (.bldS 1 0 (.sc (.int .u8 0)) []))⟩,
    ⟨(some 6), none, (.q (.mov (.t 1)))⟩,
    ⟨(some 7), none, (.ac (.app false 1 1 (.t 5) (.t 6)))⟩,
    ⟨(some 8), none, (.q (.mov (.t 0)))⟩,
    ⟨(some 9), none, (.q (.mov (.t 1)))⟩,
    ⟨(some 10), none, (.ac (.callf 84 [(.t 8), (.t 9)]))⟩,
    ⟨(some 11), none, (.ac (.callf 99 [(.t 10)]))⟩,
    ⟨(some 12), none, (.ac (.app false 1 1 (.t 7) (.t 11)))⟩,
    ⟨(some 4), none, (.q (.mov (.t 12)))⟩] [4]) (
  .ret)),
  [.tmp 4], []⟩
noncomputable def g61 : HFn Tryz.prog := ⟨r61, fun K => wslow Tryz.prog K r61.code, fun _ _ hK => wslow_fits hK _ (by decide +kernel)⟩
theorem c61 : chkF Tryz.prog Tryz.f61 r61 = true := by decide +kernel

end Go.AM
