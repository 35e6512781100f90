/-
  FlowNothing's example, the notes: what calls within it look at, and what they come to. No conditions: definitions.
-/
import Derived.Test.YtgfbjbdfckgdjaaGreatDoorND1
namespace Go.Proofs.YtgfbjbdfckgdjaaGreatDoor
open Go.RowKit Go
set_option maxHeartbeats 1000000
set_option maxRecDepth 100000


def m1 : Ev.Note where
  f := 49
  args := [(.agg [(.slice (some (10, 0)) 3 3), (.int .i64 2), (.int .i64 1), (.int .i64 4), (.bool true), (.int .i64 1), (.int .i64 2), (.int .i64 2)])]
  n := 14
  old := c0
  v := (.bool true)
  m := 93
  fin := []

def m2 : Ev.Note where
  f := 50
  args := [(.agg [(.slice (some (10, 0)) 3 3), (.int .i64 2), (.int .i64 1), (.int .i64 4), (.bool true), (.int .i64 1), (.int .i64 2), (.int .i64 2)]), (.slice (some (12, 0)) 1 1)]
  n := 93
  old := c1
  v := (.tuple [(.map (some 94)), (.int .i64 0)])
  m := 193
  fin := c2 ++ c3 ++ c4

def m3 : Ev.Note where
  f := 51
  args := [(.agg [(.slice (some (10, 0)) 3 3), (.int .i64 2), (.int .i64 1), (.int .i64 4), (.bool true), (.int .i64 1), (.int .i64 2), (.int .i64 2)])]
  n := 193
  old := c0
  v := (.int .i64 4)
  m := 331
  fin := []

def m4 : Ev.Note where
  f := 51
  args := [(.agg [(.slice (some (332, 0)) 3 3), (.int .i64 2), (.int .i64 1), (.int .i64 4), (.bool true), (.int .i64 1), (.int .i64 2), (.int .i64 2)])]
  n := 348
  old := c5 ++ c6
  v := (.int .i64 4)
  m := 486
  fin := []

def m5 : Ev.Note where
  f := 182
  args := [(.int .i64 1), (.func (.func 184) [] [(.ptr (some (565, 0)))]), (.ptr (some (565, 0)))]
  n := 650
  old := c7 ++ c8 ++ c9 ++ c5 ++ [(336, .row [(.int .i64 0)] 3 true 1), (338, .row [(.int .i64 1), (.int .i64 0)] 141 true 2), (340, .row [(.str [110])] 9 true 1), (342, .row [(.int .i64 1)] 3 true 1), (343, .map [⟨(.int .i64 2), (.ptr (some (563, 0))), 0⟩] 1), (344, .map [] 0), (345, .map [] 0), (346, .map [] 0), (347, .row [(.slice (some (332, 0)) 3 3), (.int .i64 2), (.int .i64 1), (.int .i64 4), (.bool true), (.int .i64 1), (.int .i64 2), (.int .i64 2), (.ptr (some (487, 0))), (.map none), (.map (some 94)), (.bool false), (.map (some 343)), (.slice (some (649, 0)) 1 1), (.map (some 566)), (.map (some 567)), (.slice none 0 0), (.map (some 344)), (.map none), (.map none), (.map (some 345)), (.slice none 0 0), (.map (some 346)), (.int .i64 0), (.bool false), (.bool false)] 91 false 1)] ++ c10 ++ [(562, .map [] 0), (563, .row [(.int .i64 1000000000), (.int .i64 0), (.map (some 562)), (.slice none 0 0)] 237 false 1), (565, .row [(.ptr (some (347, 0)))] 29 false 1), (566, .map [] 0), (567, .map [⟨(.int .i64 0), (.slice (some (645, 0)) 1 1), 0⟩] 1)] ++ [(645, .row [(.int .i64 0)] 3 true 1), (647, .row [(.int .i64 0), (.int .i64 0), (.int .i64 0), (.slice none 0 0), (.slice none 0 0), (.int .i64 (-1000000000000)), (.ptr none), (.ptr none)] 185 false 1), (649, .row [(.iface 178 (.ptr (some (647, 0))))] 170 true 1)]
  v := (.tuple [])
  m := 732
  fin := [(347, some (.row [(.slice (some (332, 0)) 3 3), (.int .i64 2), (.int .i64 1), (.int .i64 4), (.bool true), (.int .i64 1), (.int .i64 2), (.int .i64 2), (.ptr (some (487, 0))), (.map none), (.map (some 94)), (.bool false), (.map (some 343)), (.slice (some (731, 0)) 3 3), (.map (some 566)), (.map (some 567)), (.slice none 0 0), (.map (some 344)), (.map none), (.map none), (.map (some 345)), (.slice none 0 0), (.map (some 346)), (.int .i64 0), (.bool false), (.bool false)] 91 false 1))] ++ [(566, some (.map [⟨(.int .i64 1), (.ptr (some (722, 0))), 0⟩, ⟨(.int .i64 2), (.ptr (some (729, 0))), 1⟩] 2)), (567, some (.map [⟨(.int .i64 0), (.slice (some (645, 0)) 1 1), 0⟩, ⟨(.int .i64 1), (.slice (some (727, 0)) 2 2), 1⟩] 2))] ++ [(649, none)] ++ [(722, some (.row [(.int .i64 1), (.int .i64 1), (.int .i64 0), (.slice none 0 0), (.slice none 0 0), (.int .i64 (-1000000000000)), (.ptr none), (.ptr none), (.slice none 0 0), (.ptr none)] 246 false 1)), (727, some (.row [(.int .i64 1), (.int .i64 2)] 3 true 1)), (729, some (.row [(.int .i64 2), (.int .i64 1), (.int .i64 1), (.slice none 0 0), (.slice none 0 0), (.int .i64 (-1000000000000)), (.ptr none), (.ptr none), (.slice none 0 0), (.ptr none)] 246 false 1)), (731, some (.row [(.iface 178 (.ptr (some (647, 0)))), (.iface 241 (.ptr (some (722, 0)))), (.iface 241 (.ptr (some (729, 0))))] 170 true 1))]

def m6 : Ev.Note where
  f := 182
  args := [(.int .i64 2), (.func (.func 184) [] [(.ptr (some (565, 0)))]), (.ptr (some (565, 0)))]
  n := 732
  old := c7 ++ c8 ++ c9 ++ c5 ++ [(336, .row [(.int .i64 0)] 3 true 1), (338, .row [(.int .i64 1), (.int .i64 0)] 141 true 2), (340, .row [(.str [110])] 9 true 1), (342, .row [(.int .i64 1)] 3 true 1), (343, .map [⟨(.int .i64 2), (.ptr (some (563, 0))), 0⟩] 1), (344, .map [] 0), (345, .map [] 0), (346, .map [] 0), (347, .row [(.slice (some (332, 0)) 3 3), (.int .i64 2), (.int .i64 1), (.int .i64 4), (.bool true), (.int .i64 1), (.int .i64 2), (.int .i64 2), (.ptr (some (487, 0))), (.map none), (.map (some 94)), (.bool false), (.map (some 343)), (.slice (some (731, 0)) 3 3), (.map (some 566)), (.map (some 567)), (.slice none 0 0), (.map (some 344)), (.map none), (.map none), (.map (some 345)), (.slice none 0 0), (.map (some 346)), (.int .i64 0), (.bool false), (.bool false)] 91 false 1)] ++ c10 ++ [(562, .map [] 0), (563, .row [(.int .i64 1000000000), (.int .i64 0), (.map (some 562)), (.slice none 0 0)] 237 false 1), (565, .row [(.ptr (some (347, 0)))] 29 false 1), (566, .map [⟨(.int .i64 1), (.ptr (some (722, 0))), 0⟩, ⟨(.int .i64 2), (.ptr (some (729, 0))), 1⟩] 2), (567, .map [⟨(.int .i64 0), (.slice (some (645, 0)) 1 1), 0⟩, ⟨(.int .i64 1), (.slice (some (727, 0)) 2 2), 1⟩] 2)] ++ [(645, .row [(.int .i64 0)] 3 true 1), (647, .row [(.int .i64 0), (.int .i64 0), (.int .i64 0), (.slice none 0 0), (.slice none 0 0), (.int .i64 (-1000000000000)), (.ptr none), (.ptr none)] 185 false 1)] ++ [(722, .row [(.int .i64 1), (.int .i64 1), (.int .i64 0), (.slice none 0 0), (.slice none 0 0), (.int .i64 (-1000000000000)), (.ptr none), (.ptr none), (.slice none 0 0), (.ptr none)] 246 false 1), (727, .row [(.int .i64 1), (.int .i64 2)] 3 true 1), (729, .row [(.int .i64 2), (.int .i64 1), (.int .i64 1), (.slice none 0 0), (.slice none 0 0), (.int .i64 (-1000000000000)), (.ptr none), (.ptr none), (.slice none 0 0), (.ptr none)] 246 false 1), (731, .row [(.iface 178 (.ptr (some (647, 0)))), (.iface 241 (.ptr (some (722, 0)))), (.iface 241 (.ptr (some (729, 0))))] 170 true 1)]
  v := (.tuple [])
  m := 807
  fin := [(347, some (.row [(.slice (some (332, 0)) 3 3), (.int .i64 2), (.int .i64 1), (.int .i64 4), (.bool true), (.int .i64 1), (.int .i64 2), (.int .i64 2), (.ptr (some (487, 0))), (.map none), (.map (some 94)), (.bool false), (.map (some 343)), (.slice (some (806, 0)) 4 4), (.map (some 566)), (.map (some 567)), (.slice none 0 0), (.map (some 344)), (.map none), (.map none), (.map (some 345)), (.slice none 0 0), (.map (some 346)), (.int .i64 0), (.bool false), (.bool false)] 91 false 1))] ++ c11 ++ [(731, none)] ++ [(802, some (.row [(.int .i64 3)] 3 true 1)), (804, some (.row [(.int .i64 3), (.int .i64 2), (.int .i64 0), (.slice none 0 0), (.slice none 0 0), (.int .i64 (-1000000000000)), (.ptr none), (.ptr none), (.slice none 0 0), (.ptr none)] 246 false 1)), (806, some (.row [(.iface 178 (.ptr (some (647, 0)))), (.iface 241 (.ptr (some (722, 0)))), (.iface 241 (.ptr (some (729, 0)))), (.iface 241 (.ptr (some (804, 0))))] 170 true 1))]

def m7 : Ev.Note where
  f := 120
  args := [(.ptr (some (347, 0)))]
  n := 565
  old := c7 ++ c8 ++ c9 ++ c5 ++ c12 ++ c10 ++ c13
  v := (.tuple [])
  m := 875
  fin := [(347, some (.row [(.slice (some (332, 0)) 3 3), (.int .i64 2), (.int .i64 1), (.int .i64 4), (.bool true), (.int .i64 1), (.int .i64 2), (.int .i64 2), (.ptr (some (487, 0))), (.map none), (.map (some 94)), (.bool false), (.map (some 343)), (.slice (some (806, 0)) 4 4), (.map (some 566)), (.map (some 567)), (.slice (some (845, 0)) 4 4), (.map (some 344)), (.map none), (.map none), (.map (some 345)), (.slice none 0 0), (.map (some 346)), (.int .i64 0), (.bool false), (.bool false)] 91 false 1))] ++ c11 ++ [(645, some (.row [(.int .i64 0)] 3 true 1)), (647, some (.row [(.int .i64 0), (.int .i64 0), (.int .i64 0), (.slice none 0 0), (.slice (some (827, 0)) 2 2), (.int .i64 (-1000000000000)), (.ptr none), (.ptr none)] 185 false 1))] ++ [(722, some (.row [(.int .i64 1), (.int .i64 1), (.int .i64 0), (.slice (some (819, 0)) 1 1), (.slice (some (837, 0)) 1 1), (.int .i64 (-1000000000000)), (.ptr (some (852, 0))), (.ptr none), (.slice (some (857, 0)) 1 1), (.ptr none)] 246 false 1)), (727, some (.row [(.int .i64 1), (.int .i64 2)] 3 true 1)), (729, some (.row [(.int .i64 2), (.int .i64 1), (.int .i64 1), (.slice (some (829, 0)) 1 1), (.slice (some (847, 0)) 1 1), (.int .i64 (-1000000000000)), (.ptr (some (859, 0))), (.ptr none), (.slice (some (864, 0)) 1 1), (.ptr none)] 246 false 1))] ++ [(802, some (.row [(.int .i64 3)] 3 true 1)), (804, some (.row [(.int .i64 3), (.int .i64 2), (.int .i64 0), (.slice (some (849, 0)) 2 2), (.slice none 0 0), (.int .i64 (-1000000000000)), (.ptr (some (866, 0))), (.ptr none), (.slice (some (874, 0)) 2 2), (.ptr none)] 246 false 1)), (806, some (.row [(.iface 178 (.ptr (some (647, 0)))), (.iface 241 (.ptr (some (722, 0)))), (.iface 241 (.ptr (some (729, 0)))), (.iface 241 (.ptr (some (804, 0))))] 170 true 1)), (810, some (.map [] 0)), (811, some (.map [] 0)), (812, some (.row [(.slice none 0 0), (.int .i64 2), (.int .i64 2), (.int .i64 1000), (.int .i64 0), (.int .i64 0), (.map (some 810)), (.slice none 0 0), (.map (some 811)), (.int .i64 0)] 226 false 1)), (813, some (.row [(.int .i64 0), (.int .i64 1), (.int .i64 0), (.ptr (some (812, 0))), (.slice none 0 0)] 129 false 1))] ++ c14 ++ [(864, some (.row [(.int .i64 (-1000000000000))] 3 false 1)), (865, some (.map [] 0)), (866, some (.row [(.slice (some (872, 0)) 2 2), (.iface 419 (.agg [])), (.int .i64 0), (.int .i64 0), (.map (some 865))] 418 false 1)), (867, some (.row [(.int .i64 0), (.bool false), (.slice none 0 0), (.bool false), (.bool false)] 422 false 1)), (870, some (.row [(.int .i64 0), (.bool false), (.slice none 0 0), (.bool false), (.bool false)] 422 false 1)), (872, some (.row [(.ptr (some (867, 0))), (.ptr (some (870, 0)))] 420 true 1)), (874, some (.row [(.int .i64 (-1000000000000)), (.int .i64 (-1000000000000))] 3 false 1))]

def m8 : Ev.Note where
  f := 32
  args := [(.slice (some (332, 0)) 3 3)]
  n := 954
  old := c5 ++ c6
  v := (.slice (some (1023, 0)) 1 1)
  m := 1028
  fin := [(1023, some (.row [(.int .i64 0)] 3 true 1))]

def m9 : Ev.Note where
  f := 125
  args := [(.ptr (some (347, 0)))]
  n := 1091
  old := c7 ++ c8 ++ c9 ++ c5 ++ c15 ++ c10 ++ c16 ++ c17 ++ c18 ++ c19 ++ c20 ++ c21 ++ c22 ++ c23 ++ c24
  v := (.slice (some (1097, 0)) 3 3)
  m := 1098
  fin := [(1097, some (.row [(.int .i64 1), (.int .i64 2), (.int .i64 3)] 3 true 1))]

def m10 : Ev.Note where
  f := 489
  args := [(.slice (some (332, 0)) 3 3)]
  n := 1391
  old := c5 ++ c6
  v := (.tuple [(.slice (some (1457, 0)) 3 3), (.int .i64 0)])
  m := 1462
  fin := [(1457, some (.row [(.bool true), (.bool true), (.bool true)] 4 false 1))]

def m11 : Ev.Note where
  f := 401
  args := [(.slice (some (332, 0)) 3 3), (.int .i64 1), (.int .i64 4), (.int .i64 0), (.int .i64 2)]
  n := 1324
  old := c5 ++ c6
  v := (.agg [(.slice (some (1530, 0)) 3 3), (.int .i64 1), (.int .i64 5), (.str [103]), (.slice (some (1534, 0)) 1 1), (.slice none 0 0), (.int .i64 0), (.str []), (.slice none 0 0), (.slice none 0 0), (.slice none 0 0), (.int .i64 1), (.int .i64 10), (.int .i64 0), (.int .i64 0), (.int .i64 0), (.slice (some (1536, 0)) 1 1), (.slice (some (1538, 0)) 1 1), (.int .i64 0), (.int .i64 0), (.slice none 0 0), (.bool false), (.int .i64 0), (.int .i64 0), (.slice none 0 0), (.int .i64 0), (.int .i64 0), (.slice (some (1543, 0)) 1 1), (.bool true), (.slice (some (1545, 0)) 1 1), (.bool true), (.int .i64 4), (.int .i64 0), (.int .i64 2)])
  m := 1546
  fin := c25 ++ c26 ++ [(1536, some (.row [(.int .i64 1), (.int .i64 0)] 141 true 2)), (1538, some (.row [(.str [110])] 9 true 1)), (1540, some (.row [(.int .i64 1)] 3 true 1)), (1543, some (.row [(.slice (some (1338, 0)) 1 1)] 102 true 1)), (1545, some (.row [(.bool true)] 4 true 1))]

def m12 : Ev.Note where
  f := 303
  args := [(.slice (some (332, 0)) 3 3), (.int .i64 1), (.int .i64 4), (.int .i64 0), (.int .i64 2)]
  n := 1246
  old := c5 ++ c6
  v := (.tuple [(.ptr (some (1553, 0))), (.int .i64 0)])
  m := 1554
  fin := c25 ++ c26 ++ c27

def m13 : Ev.Note where
  f := 195
  args := [(.slice (some (332, 0)) 3 3), (.int .i64 1), (.int .i64 4), (.int .i64 0), (.int .i64 2), (.slice none 0 0), (.slice (some (1167, 0)) 1 1)]
  n := 1168
  old := c5 ++ c6 ++ [(1167, .row [(.int .i64 (-1000000000000))] 3 false 1)]
  v := (.tuple [(.ptr (some (1553, 0))), (.int .i64 0)])
  m := 1559
  fin := c25 ++ c26 ++ c27

def m14 : Ev.Note where
  f := 112
  args := [(.agg [(.slice (some (332, 0)) 3 3), (.int .i64 2), (.int .i64 1), (.int .i64 4), (.bool true), (.int .i64 1), (.int .i64 2), (.int .i64 2)]), (.int .i64 1)]
  n := 1559
  old := c5 ++ c6
  v := (.int .i64 2)
  m := 1627
  fin := []

def m15 : Ev.Note where
  f := 489
  args := [(.slice (some (332, 0)) 3 3)]
  n := 1852
  old := c5 ++ c6
  v := (.tuple [(.slice (some (1918, 0)) 3 3), (.int .i64 0)])
  m := 1923
  fin := [(1918, some (.row [(.bool true), (.bool true), (.bool true)] 4 false 1))]

def m16 : Ev.Note where
  f := 401
  args := [(.slice (some (332, 0)) 3 3), (.int .i64 1), (.int .i64 4), (.int .i64 2), (.int .i64 4)]
  n := 1785
  old := c5 ++ c6
  v := (.agg [(.slice (some (1991, 0)) 3 3), (.int .i64 1), (.int .i64 5), (.str [103]), (.slice (some (1995, 0)) 1 1), (.slice none 0 0), (.int .i64 0), (.str []), (.slice none 0 0), (.slice none 0 0), (.slice none 0 0), (.int .i64 1), (.int .i64 10), (.int .i64 0), (.int .i64 0), (.int .i64 0), (.slice (some (1997, 0)) 1 1), (.slice (some (1999, 0)) 1 1), (.int .i64 0), (.int .i64 0), (.slice none 0 0), (.bool false), (.int .i64 0), (.int .i64 0), (.slice none 0 0), (.int .i64 0), (.int .i64 0), (.slice (some (2004, 0)) 1 1), (.bool true), (.slice (some (2006, 0)) 1 1), (.bool true), (.int .i64 4), (.int .i64 2), (.int .i64 4)])
  m := 2007
  fin := c28 ++ [(1991, some (.row [(.int .i64 1), (.str [115]), (.slice none 0 0), (.slice (some (1993, 0)) 1 1), (.int .i64 5), (.str []), (.slice none 0 0), (.slice none 0 0), (.slice none 0 0), (.int .i64 0), (.int .i64 0), (.int .i64 0), (.int .i64 0), (.int .i64 0), (.slice none 0 0), (.slice none 0 0), (.int .i64 0), (.int .i64 0), (.slice none 0 0), (.bool false), (.int .i64 0), (.int .i64 0), (.slice none 0 0), (.int .i64 0), (.int .i64 0), (.int .i64 5), (.str [103]), (.slice (some (1995, 0)) 1 1), (.slice none 0 0), (.int .i64 0), (.str []), (.slice none 0 0), (.slice none 0 0), (.slice none 0 0), (.int .i64 1), (.int .i64 10), (.int .i64 0), (.int .i64 0), (.int .i64 0), (.slice (some (1997, 0)) 1 1), (.slice (some (1999, 0)) 1 1), (.int .i64 0), (.int .i64 0), (.slice none 0 0), (.bool false), (.int .i64 0), (.int .i64 0), (.slice none 0 0), (.int .i64 0), (.int .i64 0), (.int .i64 9), (.str [111, 117, 116]), (.slice (some (2001, 0)) 1 1), (.slice none 0 0), (.int .i64 0), (.str []), (.slice none 0 0), (.slice none 0 0), (.slice none 0 0), (.int .i64 0), (.int .i64 0), (.int .i64 0), (.int .i64 0), (.int .i64 0), (.slice none 0 0), (.slice none 0 0), (.int .i64 0), (.int .i64 0), (.slice none 0 0), (.bool false), (.int .i64 0), (.int .i64 1), (.slice none 0 0), (.int .i64 0), (.int .i64 0)] 110 true 25)), (1993, some (.row [(.str [118]), (.int .i64 1)] 139 true 2)), (1995, some (.row [(.int .i64 0)] 3 true 1)), (1997, some (.row [(.int .i64 1), (.int .i64 0)] 141 true 2)), (1999, some (.row [(.str [110])] 9 true 1)), (2001, some (.row [(.int .i64 1)] 3 true 1)), (2004, some (.row [(.slice (some (1799, 0)) 1 1)] 102 true 1)), (2006, some (.row [(.bool true)] 4 true 1))]

def m17 : Ev.Note where
  f := 303
  args := [(.slice (some (332, 0)) 3 3), (.int .i64 1), (.int .i64 4), (.int .i64 2), (.int .i64 4)]
  n := 1707
  old := c5 ++ c6
  v := (.tuple [(.ptr (some (2014, 0))), (.int .i64 0)])
  m := 2015
  fin := c28 ++ c29

def m18 : Ev.Note where
  f := 195
  args := [(.slice (some (332, 0)) 3 3), (.int .i64 1), (.int .i64 4), (.int .i64 2), (.int .i64 4), (.slice none 0 0), (.slice (some (1628, 0)) 1 1)]
  n := 1629
  old := c5 ++ c6 ++ [(1628, .row [(.int .i64 (-1000000000000))] 3 false 1)]
  v := (.tuple [(.ptr (some (2014, 0))), (.int .i64 0)])
  m := 2020
  fin := c28 ++ c29

def m19 : Ev.Note where
  f := 112
  args := [(.agg [(.slice (some (332, 0)) 3 3), (.int .i64 2), (.int .i64 1), (.int .i64 4), (.bool true), (.int .i64 1), (.int .i64 2), (.int .i64 2)]), (.int .i64 2)]
  n := 2020
  old := c5 ++ c6
  v := (.int .i64 1)
  m := 2088
  fin := []

def m20 : Ev.Note where
  f := 489
  args := [(.slice (some (332, 0)) 3 3)]
  n := 2313
  old := c5 ++ c6
  v := (.tuple [(.slice (some (2379, 0)) 3 3), (.int .i64 0)])
  m := 2384
  fin := [(2379, some (.row [(.bool true), (.bool true), (.bool true)] 4 false 1))]

def m21 : Ev.Note where
  f := 401
  args := [(.slice (some (332, 0)) 3 3), (.int .i64 2), (.int .i64 4), (.int .i64 0), (.int .i64 4)]
  n := 2246
  old := c5 ++ c6
  v := (.agg [(.slice (some (2452, 0)) 3 3), (.int .i64 2), (.int .i64 9), (.str [111, 117, 116]), (.slice (some (2462, 0)) 1 1), (.slice none 0 0), (.int .i64 0), (.str []), (.slice none 0 0), (.slice none 0 0), (.slice none 0 0), (.int .i64 0), (.int .i64 0), (.int .i64 0), (.int .i64 0), (.int .i64 0), (.slice none 0 0), (.slice none 0 0), (.int .i64 0), (.int .i64 0), (.slice none 0 0), (.bool false), (.int .i64 0), (.int .i64 1), (.slice none 0 0), (.int .i64 0), (.int .i64 0), (.slice (some (2465, 0)) 1 1), (.bool true), (.slice (some (2467, 0)) 1 1), (.bool false), (.int .i64 4), (.int .i64 0), (.int .i64 4)])
  m := 2468
  fin := c30 ++ [(2452, some (.row [(.int .i64 1), (.str [115]), (.slice none 0 0), (.slice (some (2454, 0)) 1 1), (.int .i64 5), (.str []), (.slice none 0 0), (.slice none 0 0), (.slice none 0 0), (.int .i64 0), (.int .i64 0), (.int .i64 0), (.int .i64 0), (.int .i64 0), (.slice none 0 0), (.slice none 0 0), (.int .i64 0), (.int .i64 0), (.slice none 0 0), (.bool false), (.int .i64 0), (.int .i64 0), (.slice none 0 0), (.int .i64 0), (.int .i64 0), (.int .i64 5), (.str [103]), (.slice (some (2456, 0)) 1 1), (.slice none 0 0), (.int .i64 0), (.str []), (.slice none 0 0), (.slice none 0 0), (.slice none 0 0), (.int .i64 1), (.int .i64 10), (.int .i64 0), (.int .i64 0), (.int .i64 0), (.slice (some (2458, 0)) 1 1), (.slice (some (2460, 0)) 1 1), (.int .i64 0), (.int .i64 0), (.slice none 0 0), (.bool false), (.int .i64 0), (.int .i64 0), (.slice none 0 0), (.int .i64 0), (.int .i64 0), (.int .i64 9), (.str [111, 117, 116]), (.slice (some (2462, 0)) 1 1), (.slice none 0 0), (.int .i64 0), (.str []), (.slice none 0 0), (.slice none 0 0), (.slice none 0 0), (.int .i64 0), (.int .i64 0), (.int .i64 0), (.int .i64 0), (.int .i64 0), (.slice none 0 0), (.slice none 0 0), (.int .i64 0), (.int .i64 0), (.slice none 0 0), (.bool false), (.int .i64 0), (.int .i64 1), (.slice none 0 0), (.int .i64 0), (.int .i64 0)] 110 true 25)), (2454, some (.row [(.str [118]), (.int .i64 1)] 139 true 2)), (2456, some (.row [(.int .i64 0)] 3 true 1)), (2458, some (.row [(.int .i64 1), (.int .i64 0)] 141 true 2)), (2460, some (.row [(.str [110])] 9 true 1)), (2462, some (.row [(.int .i64 1)] 3 true 1)), (2465, some (.row [(.slice (some (2287, 0)) 3 3)] 102 true 1)), (2467, some (.row [(.bool true)] 4 true 1))]

def m22 : Ev.Note where
  f := 303
  args := [(.slice (some (332, 0)) 3 3), (.int .i64 2), (.int .i64 4), (.int .i64 0), (.int .i64 4)]
  n := 2168
  old := c5 ++ c6
  v := (.tuple [(.ptr (some (2473, 0))), (.int .i64 0)])
  m := 2474
  fin := c30 ++ c31

def m23 : Ev.Note where
  f := 195
  args := [(.slice (some (332, 0)) 3 3), (.int .i64 2), (.int .i64 4), (.int .i64 0), (.int .i64 4), (.slice none 0 0), (.slice (some (2089, 0)) 1 1)]
  n := 2090
  old := c5 ++ c6 ++ [(2089, .row [(.int .i64 (-1000000000000))] 3 false 1)]
  v := (.tuple [(.ptr (some (2473, 0))), (.int .i64 0)])
  m := 2479
  fin := c30 ++ c31

def m24 : Ev.Note where
  f := 112
  args := [(.agg [(.slice (some (332, 0)) 3 3), (.int .i64 2), (.int .i64 1), (.int .i64 4), (.bool true), (.int .i64 1), (.int .i64 2), (.int .i64 2)]), (.int .i64 2)]
  n := 2479
  old := c5 ++ c6
  v := (.int .i64 1)
  m := 2547
  fin := []

def m25 : Ev.Note where
  f := 123
  args := [(.ptr (some (347, 0))), (.int .i64 0), (.ptr (some (564, 0)))]
  n := 1091
  old := c7 ++ c8 ++ c9 ++ c5 ++ c15 ++ c10 ++ [(562, .map [] 0), (563, .row [(.int .i64 1000000000), (.int .i64 0), (.map (some 562)), (.slice none 0 0)] 237 false 1), (564, .row [(.map none), (.map none), (.map none), (.map none), (.slice none 0 0), (.map none), (.map none), (.map none), (.map none), (.slice none 0 0)] 124 false 1), (566, .map [⟨(.int .i64 1), (.ptr (some (722, 0))), 0⟩, ⟨(.int .i64 2), (.ptr (some (729, 0))), 1⟩, ⟨(.int .i64 3), (.ptr (some (804, 0))), 2⟩] 3), (567, .map [⟨(.int .i64 0), (.slice (some (645, 0)) 1 1), 0⟩, ⟨(.int .i64 1), (.slice (some (727, 0)) 2 2), 1⟩, ⟨(.int .i64 2), (.slice (some (802, 0)) 1 1), 2⟩] 3)] ++ c17 ++ c18 ++ c19 ++ c20 ++ c21 ++ c22 ++ c23 ++ c24
  v := (.int .i64 0)
  m := 2580
  fin := [(722, some (.row [(.int .i64 1), (.int .i64 1), (.int .i64 0), (.slice (some (819, 0)) 1 1), (.slice (some (837, 0)) 1 1), (.int .i64 (-1000000000000)), (.ptr (some (852, 0))), (.ptr (some (1553, 0))), (.slice (some (857, 0)) 1 1), (.ptr none)] 246 false 1)), (729, some (.row [(.int .i64 2), (.int .i64 1), (.int .i64 1), (.slice (some (829, 0)) 1 1), (.slice (some (847, 0)) 1 1), (.int .i64 (-1000000000000)), (.ptr (some (859, 0))), (.ptr (some (2014, 0))), (.slice (some (864, 0)) 1 1), (.ptr none)] 246 false 1))] ++ [(804, some (.row [(.int .i64 3), (.int .i64 2), (.int .i64 0), (.slice (some (849, 0)) 2 2), (.slice none 0 0), (.int .i64 (-1000000000000)), (.ptr (some (866, 0))), (.ptr (some (2473, 0))), (.slice (some (874, 0)) 2 2), (.ptr (some (2579, 0)))] 246 false 1))] ++ c25 ++ c26 ++ c27 ++ c28 ++ c29 ++ c30 ++ c31 ++ c32

def m26 : Ev.Note where
  f := 56
  args := [(.ptr (some (347, 0))), (.int .i64 0)]
  n := 564
  old := c7 ++ c8 ++ c9 ++ c5 ++ c12 ++ c10 ++ c13
  v := (.int .i64 0)
  m := 2581
  fin := [(347, some (.row [(.slice (some (332, 0)) 3 3), (.int .i64 2), (.int .i64 1), (.int .i64 4), (.bool true), (.int .i64 1), (.int .i64 2), (.int .i64 2), (.ptr (some (487, 0))), (.map (some 875)), (.map (some 94)), (.bool false), (.map (some 343)), (.slice (some (806, 0)) 4 4), (.map (some 566)), (.map (some 567)), (.slice (some (845, 0)) 4 4), (.map (some 344)), (.map (some 876)), (.map (some 877)), (.map (some 345)), (.slice (some (953, 0)) 1 1), (.map (some 346)), (.int .i64 0), (.bool false), (.bool false)] 91 false 1))] ++ c11 ++ c33 ++ c34 ++ c35 ++ c14 ++ c36 ++ c37 ++ c38 ++ c39 ++ c25 ++ c26 ++ c27 ++ c28 ++ c29 ++ c30 ++ c31 ++ c32

def m27 : Ev.Note where
  f := 17
  args := [(.agg [(.slice (some (10, 0)) 3 3), (.int .i64 2), (.int .i64 1), (.int .i64 4), (.bool true), (.int .i64 1), (.int .i64 2), (.int .i64 2)]), (.slice (some (12, 0)) 1 1)]
  n := 13
  old := c1
  v := (.tuple [(.ptr (some (347, 0))), (.int .i64 0)])
  m := 2581
  fin := c2 ++ c3 ++ c4 ++ [(332, some (.row [(.int .i64 1), (.str [115]), (.slice none 0 0), (.slice (some (334, 0)) 1 1), (.int .i64 5), (.str []), (.slice none 0 0), (.slice none 0 0), (.slice none 0 0), (.int .i64 0), (.int .i64 0), (.int .i64 0), (.int .i64 0), (.int .i64 0), (.slice none 0 0), (.slice none 0 0), (.int .i64 0), (.int .i64 0), (.slice none 0 0), (.bool false), (.int .i64 0), (.int .i64 0), (.slice none 0 0), (.int .i64 0), (.int .i64 0), (.int .i64 5), (.str [103]), (.slice (some (336, 0)) 1 1), (.slice none 0 0), (.int .i64 0), (.str []), (.slice none 0 0), (.slice none 0 0), (.slice none 0 0), (.int .i64 1), (.int .i64 10), (.int .i64 0), (.int .i64 0), (.int .i64 0), (.slice (some (338, 0)) 1 1), (.slice (some (340, 0)) 1 1), (.int .i64 0), (.int .i64 0), (.slice none 0 0), (.bool false), (.int .i64 0), (.int .i64 0), (.slice none 0 0), (.int .i64 0), (.int .i64 0), (.int .i64 9), (.str [111, 117, 116]), (.slice (some (342, 0)) 1 1), (.slice none 0 0), (.int .i64 0), (.str []), (.slice none 0 0), (.slice none 0 0), (.slice none 0 0), (.int .i64 0), (.int .i64 0), (.int .i64 0), (.int .i64 0), (.int .i64 0), (.slice none 0 0), (.slice none 0 0), (.int .i64 0), (.int .i64 0), (.slice none 0 0), (.bool false), (.int .i64 0), (.int .i64 1), (.slice none 0 0), (.int .i64 0), (.int .i64 0)] 110 true 25)), (334, some (.row [(.str [118]), (.int .i64 1)] 139 true 2))] ++ [(336, some (.row [(.int .i64 0)] 3 true 1)), (338, some (.row [(.int .i64 1), (.int .i64 0)] 141 true 2)), (340, some (.row [(.str [110])] 9 true 1)), (342, some (.row [(.int .i64 1)] 3 true 1)), (343, some (.map [⟨(.int .i64 2), (.ptr (some (563, 0))), 0⟩] 1)), (344, some (.map [] 0)), (345, some (.map [] 0)), (346, some (.map [] 0)), (347, some (.row [(.slice (some (332, 0)) 3 3), (.int .i64 2), (.int .i64 1), (.int .i64 4), (.bool true), (.int .i64 1), (.int .i64 2), (.int .i64 2), (.ptr (some (487, 0))), (.map (some 875)), (.map (some 94)), (.bool false), (.map (some 343)), (.slice (some (806, 0)) 4 4), (.map (some 566)), (.map (some 567)), (.slice (some (845, 0)) 4 4), (.map (some 344)), (.map (some 876)), (.map (some 877)), (.map (some 345)), (.slice (some (953, 0)) 1 1), (.map (some 346)), (.int .i64 0), (.bool false), (.bool false)] 91 false 1))] ++ [(486, some (.map [] 0)), (487, some (.row [(.int .i64 4), (.int .i64 1), (.int .i64 3), (.map (some 486)), (.int .i64 0)] 216 false 1))] ++ [(562, some (.map [] 0)), (563, some (.row [(.int .i64 1000000000), (.int .i64 0), (.map (some 562)), (.slice none 0 0)] 237 false 1)), (566, some (.map [⟨(.int .i64 1), (.ptr (some (722, 0))), 0⟩, ⟨(.int .i64 2), (.ptr (some (729, 0))), 1⟩, ⟨(.int .i64 3), (.ptr (some (804, 0))), 2⟩] 3)), (567, some (.map [⟨(.int .i64 0), (.slice (some (645, 0)) 1 1), 0⟩, ⟨(.int .i64 1), (.slice (some (727, 0)) 2 2), 1⟩, ⟨(.int .i64 2), (.slice (some (802, 0)) 1 1), 2⟩] 3))] ++ c33 ++ c34 ++ c35 ++ c14 ++ c36 ++ c37 ++ c38 ++ c39 ++ c25 ++ c26 ++ c27 ++ c28 ++ c29 ++ c30 ++ c31 ++ c32

def m28 : Ev.Note where
  f := 125
  args := [(.ptr (some (347, 0)))]
  n := 2586
  old := c7 ++ c8 ++ c9 ++ c5 ++ c15 ++ c10 ++ c16 ++ c17 ++ c40 ++ c41 ++ c20 ++ c21 ++ c22 ++ c23 ++ c24 ++ c42 ++ c43 ++ c44 ++ c45 ++ c46 ++ c47 ++ c48 ++ c49
  v := (.slice (some (2592, 0)) 3 3)
  m := 2593
  fin := [(2592, some (.row [(.int .i64 1), (.int .i64 2), (.int .i64 3)] 3 true 1))]

def m29 : Ev.Note where
  f := 51
  args := [(.agg [(.slice (some (332, 0)) 3 3), (.int .i64 2), (.int .i64 1), (.int .i64 4), (.bool true), (.int .i64 1), (.int .i64 2), (.int .i64 2)])]
  n := 2628
  old := c5 ++ c6
  v := (.int .i64 4)
  m := 2766
  fin := []

def m30 : Ev.Note where
  f := 182
  args := [(.int .i64 1), (.func (.func 184) [] [(.ptr (some (2772, 0)))]), (.ptr (some (2772, 0)))]
  n := 2857
  old := c7 ++ c8 ++ c9 ++ c5 ++ [(336, .row [(.int .i64 0)] 3 true 1), (338, .row [(.int .i64 1), (.int .i64 0)] 141 true 2), (340, .row [(.str [110])] 9 true 1), (342, .row [(.int .i64 1)] 3 true 1), (343, .map [⟨(.int .i64 2), (.ptr (some (563, 0))), 0⟩] 1), (344, .map [] 0), (345, .map [] 0), (346, .map [⟨(.int .i64 1), (.agg [(.int .i64 0), (.int .i64 0)]), 0⟩, ⟨(.int .i64 2), (.agg [(.int .i64 0), (.int .i64 0)]), 1⟩] 2), (347, .row [(.slice (some (332, 0)) 3 3), (.int .i64 2), (.int .i64 1), (.int .i64 4), (.bool true), (.int .i64 1), (.int .i64 2), (.int .i64 2), (.ptr (some (487, 0))), (.map (some 875)), (.map (some 94)), (.bool false), (.map (some 343)), (.slice (some (2856, 0)) 1 1), (.map (some 2773)), (.map (some 2774)), (.slice none 0 0), (.map (some 344)), (.map (some 876)), (.map (some 877)), (.map (some 345)), (.slice (some (953, 0)) 1 1), (.map (some 346)), (.int .i64 1), (.bool false), (.bool false)] 91 false 1)] ++ c50 ++ c13 ++ c51 ++ c22 ++ c23 ++ c24 ++ [(2772, .row [(.ptr (some (347, 0)))] 29 false 1), (2773, .map [] 0), (2774, .map [⟨(.int .i64 0), (.slice (some (2852, 0)) 1 1), 0⟩] 1)] ++ [(2852, .row [(.int .i64 0)] 3 true 1), (2854, .row [(.int .i64 0), (.int .i64 0), (.int .i64 0), (.slice none 0 0), (.slice none 0 0), (.int .i64 (-1000000000000)), (.ptr none), (.ptr none)] 185 false 1), (2856, .row [(.iface 178 (.ptr (some (2854, 0))))] 170 true 1)]
  v := (.tuple [])
  m := 2939
  fin := [(347, some (.row [(.slice (some (332, 0)) 3 3), (.int .i64 2), (.int .i64 1), (.int .i64 4), (.bool true), (.int .i64 1), (.int .i64 2), (.int .i64 2), (.ptr (some (487, 0))), (.map (some 875)), (.map (some 94)), (.bool false), (.map (some 343)), (.slice (some (2938, 0)) 3 3), (.map (some 2773)), (.map (some 2774)), (.slice none 0 0), (.map (some 344)), (.map (some 876)), (.map (some 877)), (.map (some 345)), (.slice (some (953, 0)) 1 1), (.map (some 346)), (.int .i64 1), (.bool false), (.bool false)] 91 false 1))] ++ [(2773, some (.map [⟨(.int .i64 1), (.ptr (some (2929, 0))), 0⟩, ⟨(.int .i64 2), (.ptr (some (2936, 0))), 1⟩] 2)), (2774, some (.map [⟨(.int .i64 0), (.slice (some (2852, 0)) 1 1), 0⟩, ⟨(.int .i64 1), (.slice (some (2934, 0)) 2 2), 1⟩] 2))] ++ [(2856, none)] ++ [(2929, some (.row [(.int .i64 1), (.int .i64 1), (.int .i64 0), (.slice none 0 0), (.slice none 0 0), (.int .i64 (-1000000000000)), (.ptr none), (.ptr none), (.slice none 0 0), (.ptr none)] 246 false 1)), (2934, some (.row [(.int .i64 1), (.int .i64 2)] 3 true 1)), (2936, some (.row [(.int .i64 2), (.int .i64 1), (.int .i64 1), (.slice none 0 0), (.slice none 0 0), (.int .i64 (-1000000000000)), (.ptr none), (.ptr none), (.slice none 0 0), (.ptr none)] 246 false 1)), (2938, some (.row [(.iface 178 (.ptr (some (2854, 0)))), (.iface 241 (.ptr (some (2929, 0)))), (.iface 241 (.ptr (some (2936, 0))))] 170 true 1))]

def m31 : Ev.Note where
  f := 182
  args := [(.int .i64 2), (.func (.func 184) [] [(.ptr (some (2772, 0)))]), (.ptr (some (2772, 0)))]
  n := 2939
  old := c7 ++ c8 ++ c9 ++ c5 ++ [(336, .row [(.int .i64 0)] 3 true 1), (338, .row [(.int .i64 1), (.int .i64 0)] 141 true 2), (340, .row [(.str [110])] 9 true 1), (342, .row [(.int .i64 1)] 3 true 1), (343, .map [⟨(.int .i64 2), (.ptr (some (563, 0))), 0⟩] 1), (344, .map [] 0), (345, .map [] 0), (346, .map [⟨(.int .i64 1), (.agg [(.int .i64 0), (.int .i64 0)]), 0⟩, ⟨(.int .i64 2), (.agg [(.int .i64 0), (.int .i64 0)]), 1⟩] 2), (347, .row [(.slice (some (332, 0)) 3 3), (.int .i64 2), (.int .i64 1), (.int .i64 4), (.bool true), (.int .i64 1), (.int .i64 2), (.int .i64 2), (.ptr (some (487, 0))), (.map (some 875)), (.map (some 94)), (.bool false), (.map (some 343)), (.slice (some (2938, 0)) 3 3), (.map (some 2773)), (.map (some 2774)), (.slice none 0 0), (.map (some 344)), (.map (some 876)), (.map (some 877)), (.map (some 345)), (.slice (some (953, 0)) 1 1), (.map (some 346)), (.int .i64 1), (.bool false), (.bool false)] 91 false 1)] ++ c50 ++ c13 ++ c51 ++ c22 ++ c23 ++ c24 ++ [(2772, .row [(.ptr (some (347, 0)))] 29 false 1), (2773, .map [⟨(.int .i64 1), (.ptr (some (2929, 0))), 0⟩, ⟨(.int .i64 2), (.ptr (some (2936, 0))), 1⟩] 2), (2774, .map [⟨(.int .i64 0), (.slice (some (2852, 0)) 1 1), 0⟩, ⟨(.int .i64 1), (.slice (some (2934, 0)) 2 2), 1⟩] 2)] ++ [(2852, .row [(.int .i64 0)] 3 true 1), (2854, .row [(.int .i64 0), (.int .i64 0), (.int .i64 0), (.slice none 0 0), (.slice none 0 0), (.int .i64 (-1000000000000)), (.ptr none), (.ptr none)] 185 false 1)] ++ [(2929, .row [(.int .i64 1), (.int .i64 1), (.int .i64 0), (.slice none 0 0), (.slice none 0 0), (.int .i64 (-1000000000000)), (.ptr none), (.ptr none), (.slice none 0 0), (.ptr none)] 246 false 1), (2934, .row [(.int .i64 1), (.int .i64 2)] 3 true 1), (2936, .row [(.int .i64 2), (.int .i64 1), (.int .i64 1), (.slice none 0 0), (.slice none 0 0), (.int .i64 (-1000000000000)), (.ptr none), (.ptr none), (.slice none 0 0), (.ptr none)] 246 false 1), (2938, .row [(.iface 178 (.ptr (some (2854, 0)))), (.iface 241 (.ptr (some (2929, 0)))), (.iface 241 (.ptr (some (2936, 0))))] 170 true 1)]
  v := (.tuple [])
  m := 3014
  fin := [(347, some (.row [(.slice (some (332, 0)) 3 3), (.int .i64 2), (.int .i64 1), (.int .i64 4), (.bool true), (.int .i64 1), (.int .i64 2), (.int .i64 2), (.ptr (some (487, 0))), (.map (some 875)), (.map (some 94)), (.bool false), (.map (some 343)), (.slice (some (3013, 0)) 4 4), (.map (some 2773)), (.map (some 2774)), (.slice none 0 0), (.map (some 344)), (.map (some 876)), (.map (some 877)), (.map (some 345)), (.slice (some (953, 0)) 1 1), (.map (some 346)), (.int .i64 1), (.bool false), (.bool false)] 91 false 1))] ++ c52 ++ [(2938, none)] ++ [(3009, some (.row [(.int .i64 3)] 3 true 1)), (3011, some (.row [(.int .i64 3), (.int .i64 2), (.int .i64 0), (.slice none 0 0), (.slice none 0 0), (.int .i64 (-1000000000000)), (.ptr none), (.ptr none), (.slice none 0 0), (.ptr none)] 246 false 1)), (3013, some (.row [(.iface 178 (.ptr (some (2854, 0)))), (.iface 241 (.ptr (some (2929, 0)))), (.iface 241 (.ptr (some (2936, 0)))), (.iface 241 (.ptr (some (3011, 0))))] 170 true 1))]

def m32 : Ev.Note where
  f := 120
  args := [(.ptr (some (347, 0)))]
  n := 2772
  old := c7 ++ c8 ++ c9 ++ c5 ++ c53 ++ c50 ++ c16 ++ c17 ++ c40 ++ c41 ++ c20 ++ c21 ++ c22 ++ c23 ++ c24 ++ c42 ++ c43 ++ c44 ++ c45 ++ c46 ++ c47 ++ c48 ++ c49
  v := (.tuple [])
  m := 3082
  fin := [(347, some (.row [(.slice (some (332, 0)) 3 3), (.int .i64 2), (.int .i64 1), (.int .i64 4), (.bool true), (.int .i64 1), (.int .i64 2), (.int .i64 2), (.ptr (some (487, 0))), (.map (some 875)), (.map (some 94)), (.bool false), (.map (some 343)), (.slice (some (3013, 0)) 4 4), (.map (some 2773)), (.map (some 2774)), (.slice (some (3052, 0)) 4 4), (.map (some 344)), (.map (some 876)), (.map (some 877)), (.map (some 345)), (.slice (some (953, 0)) 1 1), (.map (some 346)), (.int .i64 1), (.bool false), (.bool false)] 91 false 1))] ++ c52 ++ [(2852, some (.row [(.int .i64 0)] 3 true 1)), (2854, some (.row [(.int .i64 0), (.int .i64 0), (.int .i64 0), (.slice none 0 0), (.slice (some (3034, 0)) 2 2), (.int .i64 (-1000000000000)), (.ptr none), (.ptr none)] 185 false 1))] ++ [(2929, some (.row [(.int .i64 1), (.int .i64 1), (.int .i64 0), (.slice (some (3026, 0)) 1 1), (.slice (some (3044, 0)) 1 1), (.int .i64 (-1000000000000)), (.ptr (some (3059, 0))), (.ptr none), (.slice (some (3064, 0)) 1 1), (.ptr none)] 246 false 1)), (2934, some (.row [(.int .i64 1), (.int .i64 2)] 3 true 1)), (2936, some (.row [(.int .i64 2), (.int .i64 1), (.int .i64 1), (.slice (some (3036, 0)) 1 1), (.slice (some (3054, 0)) 1 1), (.int .i64 (-1000000000000)), (.ptr (some (3066, 0))), (.ptr none), (.slice (some (3071, 0)) 1 1), (.ptr none)] 246 false 1))] ++ [(3009, some (.row [(.int .i64 3)] 3 true 1)), (3011, some (.row [(.int .i64 3), (.int .i64 2), (.int .i64 0), (.slice (some (3056, 0)) 2 2), (.slice none 0 0), (.int .i64 (-1000000000000)), (.ptr (some (3073, 0))), (.ptr none), (.slice (some (3081, 0)) 2 2), (.ptr none)] 246 false 1)), (3013, some (.row [(.iface 178 (.ptr (some (2854, 0)))), (.iface 241 (.ptr (some (2929, 0)))), (.iface 241 (.ptr (some (2936, 0)))), (.iface 241 (.ptr (some (3011, 0))))] 170 true 1)), (3017, some (.map [] 0)), (3018, some (.map [] 0)), (3019, some (.row [(.slice none 0 0), (.int .i64 2), (.int .i64 2), (.int .i64 1000), (.int .i64 0), (.int .i64 0), (.map (some 3017)), (.slice none 0 0), (.map (some 3018)), (.int .i64 0)] 226 false 1)), (3020, some (.row [(.int .i64 0), (.int .i64 1), (.int .i64 0), (.ptr (some (3019, 0))), (.slice none 0 0)] 129 false 1))] ++ c54 ++ [(3072, some (.map [] 0)), (3073, some (.row [(.slice (some (3079, 0)) 2 2), (.iface 419 (.agg [])), (.int .i64 0), (.int .i64 0), (.map (some 3072))] 418 false 1)), (3074, some (.row [(.int .i64 0), (.bool false), (.slice none 0 0), (.bool false), (.bool false)] 422 false 1)), (3077, some (.row [(.int .i64 0), (.bool false), (.slice none 0 0), (.bool false), (.bool false)] 422 false 1)), (3079, some (.row [(.ptr (some (3074, 0))), (.ptr (some (3077, 0)))] 420 true 1)), (3081, some (.row [(.int .i64 (-1000000000000)), (.int .i64 (-1000000000000))] 3 false 1))]

def m33 : Ev.Note where
  f := 32
  args := [(.slice (some (332, 0)) 3 3)]
  n := 3161
  old := c5 ++ c6
  v := (.slice (some (3230, 0)) 1 1)
  m := 3235
  fin := [(3230, some (.row [(.int .i64 0)] 3 true 1))]

def m34 : Ev.Note where
  f := 125
  args := [(.ptr (some (347, 0)))]
  n := 3298
  old := c7 ++ c8 ++ c9 ++ c5 ++ c55 ++ c50 ++ c13 ++ c56 ++ c57 ++ c58 ++ c59 ++ c60 ++ c61 ++ c62 ++ c63 ++ c64
  v := (.slice (some (3304, 0)) 3 3)
  m := 3305
  fin := [(3304, some (.row [(.int .i64 1), (.int .i64 2), (.int .i64 3)] 3 true 1))]

def m35 : Ev.Note where
  f := 489
  args := [(.slice (some (332, 0)) 3 3)]
  n := 3598
  old := c5 ++ c6
  v := (.tuple [(.slice (some (3664, 0)) 3 3), (.int .i64 0)])
  m := 3669
  fin := [(3664, some (.row [(.bool true), (.bool true), (.bool true)] 4 false 1))]

def m36 : Ev.Note where
  f := 401
  args := [(.slice (some (332, 0)) 3 3), (.int .i64 1), (.int .i64 4), (.int .i64 0), (.int .i64 2)]
  n := 3531
  old := c5 ++ c6
  v := (.agg [(.slice (some (3737, 0)) 3 3), (.int .i64 1), (.int .i64 5), (.str [103]), (.slice (some (3741, 0)) 1 1), (.slice none 0 0), (.int .i64 0), (.str []), (.slice none 0 0), (.slice none 0 0), (.slice none 0 0), (.int .i64 1), (.int .i64 10), (.int .i64 0), (.int .i64 0), (.int .i64 0), (.slice (some (3743, 0)) 1 1), (.slice (some (3745, 0)) 1 1), (.int .i64 0), (.int .i64 0), (.slice none 0 0), (.bool false), (.int .i64 0), (.int .i64 0), (.slice none 0 0), (.int .i64 0), (.int .i64 0), (.slice (some (3750, 0)) 1 1), (.bool true), (.slice (some (3752, 0)) 1 1), (.bool true), (.int .i64 4), (.int .i64 0), (.int .i64 2)])
  m := 3753
  fin := c65 ++ c66 ++ [(3745, some (.row [(.str [110])] 9 true 1)), (3747, some (.row [(.int .i64 1)] 3 true 1)), (3750, some (.row [(.slice (some (3545, 0)) 1 1)] 102 true 1)), (3752, some (.row [(.bool true)] 4 true 1))]

def m37 : Ev.Note where
  f := 303
  args := [(.slice (some (332, 0)) 3 3), (.int .i64 1), (.int .i64 4), (.int .i64 0), (.int .i64 2)]
  n := 3453
  old := c5 ++ c6
  v := (.tuple [(.ptr (some (3760, 0))), (.int .i64 0)])
  m := 3761
  fin := c65 ++ c66 ++ c67

def m38 : Ev.Note where
  f := 195
  args := [(.slice (some (332, 0)) 3 3), (.int .i64 1), (.int .i64 4), (.int .i64 0), (.int .i64 2), (.slice none 0 0), (.slice (some (3374, 0)) 1 1)]
  n := 3375
  old := c5 ++ c6 ++ [(3374, .row [(.int .i64 (-1000000000000))] 3 false 1)]
  v := (.tuple [(.ptr (some (3760, 0))), (.int .i64 0)])
  m := 3766
  fin := c65 ++ c66 ++ c67

def m39 : Ev.Note where
  f := 112
  args := [(.agg [(.slice (some (332, 0)) 3 3), (.int .i64 2), (.int .i64 1), (.int .i64 4), (.bool true), (.int .i64 1), (.int .i64 2), (.int .i64 2)]), (.int .i64 1)]
  n := 3766
  old := c5 ++ c6
  v := (.int .i64 2)
  m := 3834
  fin := []

def m40 : Ev.Note where
  f := 489
  args := [(.slice (some (332, 0)) 3 3)]
  n := 4059
  old := c5 ++ c6
  v := (.tuple [(.slice (some (4125, 0)) 3 3), (.int .i64 0)])
  m := 4130
  fin := [(4125, some (.row [(.bool true), (.bool true), (.bool true)] 4 false 1))]

def m41 : Ev.Note where
  f := 401
  args := [(.slice (some (332, 0)) 3 3), (.int .i64 1), (.int .i64 4), (.int .i64 2), (.int .i64 4)]
  n := 3992
  old := c5 ++ c6
  v := (.agg [(.slice (some (4198, 0)) 3 3), (.int .i64 1), (.int .i64 5), (.str [103]), (.slice (some (4202, 0)) 1 1), (.slice none 0 0), (.int .i64 0), (.str []), (.slice none 0 0), (.slice none 0 0), (.slice none 0 0), (.int .i64 1), (.int .i64 10), (.int .i64 0), (.int .i64 0), (.int .i64 0), (.slice (some (4204, 0)) 1 1), (.slice (some (4206, 0)) 1 1), (.int .i64 0), (.int .i64 0), (.slice none 0 0), (.bool false), (.int .i64 0), (.int .i64 0), (.slice none 0 0), (.int .i64 0), (.int .i64 0), (.slice (some (4211, 0)) 1 1), (.bool true), (.slice (some (4213, 0)) 1 1), (.bool true), (.int .i64 4), (.int .i64 2), (.int .i64 4)])
  m := 4214
  fin := c68 ++ [(4198, some (.row [(.int .i64 1), (.str [115]), (.slice none 0 0), (.slice (some (4200, 0)) 1 1), (.int .i64 5), (.str []), (.slice none 0 0), (.slice none 0 0), (.slice none 0 0), (.int .i64 0), (.int .i64 0), (.int .i64 0), (.int .i64 0), (.int .i64 0), (.slice none 0 0), (.slice none 0 0), (.int .i64 0), (.int .i64 0), (.slice none 0 0), (.bool false), (.int .i64 0), (.int .i64 0), (.slice none 0 0), (.int .i64 0), (.int .i64 0), (.int .i64 5), (.str [103]), (.slice (some (4202, 0)) 1 1), (.slice none 0 0), (.int .i64 0), (.str []), (.slice none 0 0), (.slice none 0 0), (.slice none 0 0), (.int .i64 1), (.int .i64 10), (.int .i64 0), (.int .i64 0), (.int .i64 0), (.slice (some (4204, 0)) 1 1), (.slice (some (4206, 0)) 1 1), (.int .i64 0), (.int .i64 0), (.slice none 0 0), (.bool false), (.int .i64 0), (.int .i64 0), (.slice none 0 0), (.int .i64 0), (.int .i64 0), (.int .i64 9), (.str [111, 117, 116]), (.slice (some (4208, 0)) 1 1), (.slice none 0 0), (.int .i64 0), (.str []), (.slice none 0 0), (.slice none 0 0), (.slice none 0 0), (.int .i64 0), (.int .i64 0), (.int .i64 0), (.int .i64 0), (.int .i64 0), (.slice none 0 0), (.slice none 0 0), (.int .i64 0), (.int .i64 0), (.slice none 0 0), (.bool false), (.int .i64 0), (.int .i64 1), (.slice none 0 0), (.int .i64 0), (.int .i64 0)] 110 true 25)), (4200, some (.row [(.str [118]), (.int .i64 1)] 139 true 2)), (4202, some (.row [(.int .i64 0)] 3 true 1)), (4204, some (.row [(.int .i64 1), (.int .i64 0)] 141 true 2)), (4206, some (.row [(.str [110])] 9 true 1)), (4208, some (.row [(.int .i64 1)] 3 true 1)), (4211, some (.row [(.slice (some (4006, 0)) 1 1)] 102 true 1)), (4213, some (.row [(.bool true)] 4 true 1))]

def m42 : Ev.Note where
  f := 303
  args := [(.slice (some (332, 0)) 3 3), (.int .i64 1), (.int .i64 4), (.int .i64 2), (.int .i64 4)]
  n := 3914
  old := c5 ++ c6
  v := (.tuple [(.ptr (some (4221, 0))), (.int .i64 0)])
  m := 4222
  fin := c68 ++ c69

def m43 : Ev.Note where
  f := 195
  args := [(.slice (some (332, 0)) 3 3), (.int .i64 1), (.int .i64 4), (.int .i64 2), (.int .i64 4), (.slice none 0 0), (.slice (some (3835, 0)) 1 1)]
  n := 3836
  old := c5 ++ c6 ++ [(3835, .row [(.int .i64 (-1000000000000))] 3 false 1)]
  v := (.tuple [(.ptr (some (4221, 0))), (.int .i64 0)])
  m := 4227
  fin := c68 ++ c69

def m44 : Ev.Note where
  f := 112
  args := [(.agg [(.slice (some (332, 0)) 3 3), (.int .i64 2), (.int .i64 1), (.int .i64 4), (.bool true), (.int .i64 1), (.int .i64 2), (.int .i64 2)]), (.int .i64 2)]
  n := 4227
  old := c5 ++ c6
  v := (.int .i64 1)
  m := 4295
  fin := []

def m45 : Ev.Note where
  f := 489
  args := [(.slice (some (332, 0)) 3 3)]
  n := 4520
  old := c5 ++ c6
  v := (.tuple [(.slice (some (4586, 0)) 3 3), (.int .i64 0)])
  m := 4591
  fin := [(4586, some (.row [(.bool true), (.bool true), (.bool true)] 4 false 1))]

def m46 : Ev.Note where
  f := 401
  args := [(.slice (some (332, 0)) 3 3), (.int .i64 2), (.int .i64 4), (.int .i64 0), (.int .i64 4)]
  n := 4453
  old := c5 ++ c6
  v := (.agg [(.slice (some (4659, 0)) 3 3), (.int .i64 2), (.int .i64 9), (.str [111, 117, 116]), (.slice (some (4669, 0)) 1 1), (.slice none 0 0), (.int .i64 0), (.str []), (.slice none 0 0), (.slice none 0 0), (.slice none 0 0), (.int .i64 0), (.int .i64 0), (.int .i64 0), (.int .i64 0), (.int .i64 0), (.slice none 0 0), (.slice none 0 0), (.int .i64 0), (.int .i64 0), (.slice none 0 0), (.bool false), (.int .i64 0), (.int .i64 1), (.slice none 0 0), (.int .i64 0), (.int .i64 0), (.slice (some (4672, 0)) 1 1), (.bool true), (.slice (some (4674, 0)) 1 1), (.bool false), (.int .i64 4), (.int .i64 0), (.int .i64 4)])
  m := 4675
  fin := c70 ++ [(4659, some (.row [(.int .i64 1), (.str [115]), (.slice none 0 0), (.slice (some (4661, 0)) 1 1), (.int .i64 5), (.str []), (.slice none 0 0), (.slice none 0 0), (.slice none 0 0), (.int .i64 0), (.int .i64 0), (.int .i64 0), (.int .i64 0), (.int .i64 0), (.slice none 0 0), (.slice none 0 0), (.int .i64 0), (.int .i64 0), (.slice none 0 0), (.bool false), (.int .i64 0), (.int .i64 0), (.slice none 0 0), (.int .i64 0), (.int .i64 0), (.int .i64 5), (.str [103]), (.slice (some (4663, 0)) 1 1), (.slice none 0 0), (.int .i64 0), (.str []), (.slice none 0 0), (.slice none 0 0), (.slice none 0 0), (.int .i64 1), (.int .i64 10), (.int .i64 0), (.int .i64 0), (.int .i64 0), (.slice (some (4665, 0)) 1 1), (.slice (some (4667, 0)) 1 1), (.int .i64 0), (.int .i64 0), (.slice none 0 0), (.bool false), (.int .i64 0), (.int .i64 0), (.slice none 0 0), (.int .i64 0), (.int .i64 0), (.int .i64 9), (.str [111, 117, 116]), (.slice (some (4669, 0)) 1 1), (.slice none 0 0), (.int .i64 0), (.str []), (.slice none 0 0), (.slice none 0 0), (.slice none 0 0), (.int .i64 0), (.int .i64 0), (.int .i64 0), (.int .i64 0), (.int .i64 0), (.slice none 0 0), (.slice none 0 0), (.int .i64 0), (.int .i64 0), (.slice none 0 0), (.bool false), (.int .i64 0), (.int .i64 1), (.slice none 0 0), (.int .i64 0), (.int .i64 0)] 110 true 25)), (4661, some (.row [(.str [118]), (.int .i64 1)] 139 true 2)), (4663, some (.row [(.int .i64 0)] 3 true 1)), (4665, some (.row [(.int .i64 1), (.int .i64 0)] 141 true 2)), (4667, some (.row [(.str [110])] 9 true 1)), (4669, some (.row [(.int .i64 1)] 3 true 1)), (4672, some (.row [(.slice (some (4494, 0)) 3 3)] 102 true 1)), (4674, some (.row [(.bool true)] 4 true 1))]

def m47 : Ev.Note where
  f := 303
  args := [(.slice (some (332, 0)) 3 3), (.int .i64 2), (.int .i64 4), (.int .i64 0), (.int .i64 4)]
  n := 4375
  old := c5 ++ c6
  v := (.tuple [(.ptr (some (4680, 0))), (.int .i64 0)])
  m := 4681
  fin := c70 ++ c71

def m48 : Ev.Note where
  f := 195
  args := [(.slice (some (332, 0)) 3 3), (.int .i64 2), (.int .i64 4), (.int .i64 0), (.int .i64 4), (.slice none 0 0), (.slice (some (4296, 0)) 1 1)]
  n := 4297
  old := c5 ++ c6 ++ [(4296, .row [(.int .i64 (-1000000000000))] 3 false 1)]
  v := (.tuple [(.ptr (some (4680, 0))), (.int .i64 0)])
  m := 4686
  fin := c70 ++ c71

def m49 : Ev.Note where
  f := 112
  args := [(.agg [(.slice (some (332, 0)) 3 3), (.int .i64 2), (.int .i64 1), (.int .i64 4), (.bool true), (.int .i64 1), (.int .i64 2), (.int .i64 2)]), (.int .i64 2)]
  n := 4686
  old := c5 ++ c6
  v := (.int .i64 1)
  m := 4754
  fin := []

def m50 : Ev.Note where
  f := 123
  args := [(.ptr (some (347, 0))), (.int .i64 0), (.ptr (some (2771, 0)))]
  n := 3298
  old := c7 ++ c8 ++ c9 ++ c5 ++ c55 ++ c50 ++ c13 ++ [(2771, .row [(.map none), (.map none), (.map none), (.map none), (.slice none 0 0), (.map none), (.map none), (.map none), (.map none), (.slice none 0 0)] 124 false 1), (2773, .map [⟨(.int .i64 1), (.ptr (some (2929, 0))), 0⟩, ⟨(.int .i64 2), (.ptr (some (2936, 0))), 1⟩, ⟨(.int .i64 3), (.ptr (some (3011, 0))), 2⟩] 3), (2774, .map [⟨(.int .i64 0), (.slice (some (2852, 0)) 1 1), 0⟩, ⟨(.int .i64 1), (.slice (some (2934, 0)) 2 2), 1⟩, ⟨(.int .i64 2), (.slice (some (3009, 0)) 1 1), 2⟩] 3)] ++ c57 ++ c58 ++ c59 ++ c60 ++ c61 ++ c62 ++ c63 ++ c64
  v := (.int .i64 0)
  m := 4787
  fin := [(2929, some (.row [(.int .i64 1), (.int .i64 1), (.int .i64 0), (.slice (some (3026, 0)) 1 1), (.slice (some (3044, 0)) 1 1), (.int .i64 (-1000000000000)), (.ptr (some (3059, 0))), (.ptr (some (3760, 0))), (.slice (some (3064, 0)) 1 1), (.ptr none)] 246 false 1)), (2936, some (.row [(.int .i64 2), (.int .i64 1), (.int .i64 1), (.slice (some (3036, 0)) 1 1), (.slice (some (3054, 0)) 1 1), (.int .i64 (-1000000000000)), (.ptr (some (3066, 0))), (.ptr (some (4221, 0))), (.slice (some (3071, 0)) 1 1), (.ptr none)] 246 false 1))] ++ [(3011, some (.row [(.int .i64 3), (.int .i64 2), (.int .i64 0), (.slice (some (3056, 0)) 2 2), (.slice none 0 0), (.int .i64 (-1000000000000)), (.ptr (some (3073, 0))), (.ptr (some (4680, 0))), (.slice (some (3081, 0)) 2 2), (.ptr (some (4786, 0)))] 246 false 1))] ++ c65 ++ c66 ++ c67 ++ c68 ++ c69 ++ c70 ++ c71 ++ c72

def m51 : Ev.Note where
  f := 56
  args := [(.ptr (some (347, 0))), (.int .i64 0)]
  n := 2771
  old := c7 ++ c8 ++ c9 ++ c5 ++ c53 ++ c50 ++ c16 ++ c17 ++ c40 ++ c41 ++ c20 ++ c21 ++ c22 ++ c23 ++ c24 ++ c42 ++ c43 ++ c44 ++ c45 ++ c46 ++ c47 ++ c48 ++ c49
  v := (.int .i64 0)
  m := 4788
  fin := [(347, some (.row [(.slice (some (332, 0)) 3 3), (.int .i64 2), (.int .i64 1), (.int .i64 4), (.bool true), (.int .i64 1), (.int .i64 2), (.int .i64 2), (.ptr (some (487, 0))), (.map (some 3082)), (.map (some 94)), (.bool false), (.map (some 343)), (.slice (some (3013, 0)) 4 4), (.map (some 2773)), (.map (some 2774)), (.slice (some (3052, 0)) 4 4), (.map (some 344)), (.map (some 3083)), (.map (some 3084)), (.map (some 345)), (.slice (some (3160, 0)) 1 1), (.map (some 346)), (.int .i64 1), (.bool false), (.bool false)] 91 false 1))] ++ c52 ++ [(2852, some (.row [(.int .i64 0)] 3 true 1)), (2854, some (.row [(.int .i64 0), (.int .i64 0), (.int .i64 0), (.slice none 0 0), (.slice (some (3034, 0)) 2 2), (.int .i64 (-1000000000000)), (.ptr none), (.ptr (some (3257, 0)))] 185 false 1))] ++ [(2929, some (.row [(.int .i64 1), (.int .i64 1), (.int .i64 0), (.slice (some (3026, 0)) 1 1), (.slice (some (3044, 0)) 1 1), (.int .i64 (-1000000000000)), (.ptr (some (3059, 0))), (.ptr (some (3760, 0))), (.slice (some (3064, 0)) 1 1), (.ptr none)] 246 false 1)), (2934, some (.row [(.int .i64 1), (.int .i64 2)] 3 true 1)), (2936, some (.row [(.int .i64 2), (.int .i64 1), (.int .i64 1), (.slice (some (3036, 0)) 1 1), (.slice (some (3054, 0)) 1 1), (.int .i64 (-1000000000000)), (.ptr (some (3066, 0))), (.ptr (some (4221, 0))), (.slice (some (3071, 0)) 1 1), (.ptr none)] 246 false 1))] ++ [(3009, some (.row [(.int .i64 3)] 3 true 1)), (3011, some (.row [(.int .i64 3), (.int .i64 2), (.int .i64 0), (.slice (some (3056, 0)) 2 2), (.slice none 0 0), (.int .i64 (-1000000000000)), (.ptr (some (3073, 0))), (.ptr (some (4680, 0))), (.slice (some (3081, 0)) 2 2), (.ptr (some (4786, 0)))] 246 false 1)), (3013, some (.row [(.iface 178 (.ptr (some (2854, 0)))), (.iface 241 (.ptr (some (2929, 0)))), (.iface 241 (.ptr (some (2936, 0)))), (.iface 241 (.ptr (some (3011, 0))))] 170 true 1)), (3017, some (.map [] 0)), (3018, some (.map [] 0)), (3019, some (.row [(.slice none 0 0), (.int .i64 2), (.int .i64 2), (.int .i64 1000), (.int .i64 0), (.int .i64 0), (.map (some 3017)), (.slice none 0 0), (.map (some 3018)), (.int .i64 0)] 226 false 1)), (3020, some (.row [(.int .i64 0), (.int .i64 1), (.int .i64 0), (.ptr (some (3019, 0))), (.slice none 0 0)] 129 false 1))] ++ c54 ++ [(3072, some (.map [] 0)), (3073, some (.row [(.slice (some (3079, 0)) 2 2), (.iface 419 (.agg [])), (.int .i64 0), (.int .i64 0), (.map (some 3072))] 418 false 1)), (3074, some (.row [(.int .i64 0), (.bool false), (.slice none 0 0), (.bool false), (.bool false)] 422 false 1)), (3077, some (.row [(.int .i64 0), (.bool false), (.slice none 0 0), (.bool false), (.bool false)] 422 false 1)), (3079, some (.row [(.ptr (some (3074, 0))), (.ptr (some (3077, 0)))] 420 true 1)), (3081, some (.row [(.int .i64 (-1000000000000)), (.int .i64 (-1000000000000))] 3 false 1)), (3082, some (.map [⟨(.int .i64 0), (.ptr (some (3257, 0))), 0⟩] 1)), (3083, some (.map [⟨(.int .i64 0), (.slice none 0 0), 0⟩] 1)), (3084, some (.map [⟨(.int .i64 0), (.slice none 0 0), 0⟩] 1))] ++ [(3160, some (.row [(.int .i64 (-1000000000000))] 3 false 1))] ++ [(3255, some (.row [(.str [118]), (.int .i64 1)] 139 true 2)), (3256, some (.map [⟨(.str [112]), (.ptr (some (3295, 0))), 0⟩] 1)), (3257, some (.row [(.slice (some (3255, 0)) 1 1), (.int .i64 5), (.slice (some (3297, 0)) 1 1), (.map (some 3256)), (.slice (some (3262, 0)) 1 1), (.bool false), (.slice none 0 0)] 164 false 1)), (3259, some (.row [(.int .i64 (-1000000000000)), (.bool false), (.bool false)] 355 false 1)), (3260, some (.row [(.slice (some (3259, 0)) 1 1), (.int .i64 (-1000000000000))] 352 false 1)), (3262, some (.row [(.ptr (some (3260, 0)))] 271 true 1))] ++ [(3281, some (.row [(.int .i64 5), (.int .i64 (-1000000000000)), (.bool false)] 347 false 1)), (3284, some (.row [(.int .i64 1), (.int .i64 7), (.str [])] 51 true 3)), (3289, some (.row [(.int .i64 1), (.int .i64 8), (.str [])] 51 true 3)), (3291, some (.row [(.int .i64 1), (.slice (some (3284, 0)) 1 1), (.int .i64 2), (.slice (some (3289, 0)) 1 1)] 55 true 2)), (3295, some (.row [(.str [112]), (.slice (some (3291, 0)) 2 2), (.int .i64 0), (.ptr (some (3281, 0))), (.bool false), (.int .i64 0)] 167 false 1)), (3297, some (.row [(.ptr (some (3295, 0)))] 159 true 1))] ++ c65 ++ c66 ++ c67 ++ c68 ++ c69 ++ c70 ++ c71 ++ c72

def m52 : Ev.Note where
  f := 110
  args := [(.slice (some (332, 0)) 3 3)]
  n := 4981
  old := c5 ++ c6
  v := (.bool true)
  m := 5059
  fin := []

def m53 : Ev.Note where
  f := 489
  args := [(.slice (some (332, 0)) 3 3)]
  n := 5126
  old := c5 ++ c6
  v := (.tuple [(.slice (some (5192, 0)) 3 3), (.int .i64 0)])
  m := 5197
  fin := [(5192, some (.row [(.bool true), (.bool true), (.bool true)] 4 false 1))]

def m54 : Ev.Note where
  f := 401
  args := [(.slice (some (332, 0)) 3 3), (.int .i64 1), (.int .i64 1), (.int .i64 0), (.int .i64 1)]
  n := 5059
  old := c5 ++ c6
  v := (.agg [(.slice (some (5265, 0)) 3 3), (.int .i64 1), (.int .i64 5), (.str [103]), (.slice (some (5269, 0)) 1 1), (.slice none 0 0), (.int .i64 0), (.str []), (.slice none 0 0), (.slice none 0 0), (.slice none 0 0), (.int .i64 1), (.int .i64 10), (.int .i64 0), (.int .i64 0), (.int .i64 0), (.slice (some (5271, 0)) 1 1), (.slice (some (5273, 0)) 1 1), (.int .i64 0), (.int .i64 0), (.slice none 0 0), (.bool false), (.int .i64 0), (.int .i64 0), (.slice none 0 0), (.int .i64 0), (.int .i64 0), (.slice (some (5278, 0)) 1 1), (.bool true), (.slice (some (5280, 0)) 1 1), (.bool true), (.int .i64 1), (.int .i64 0), (.int .i64 1)])
  m := 5281
  fin := [(5073, some (.row [(.str [118]), (.int .i64 1)] 139 true 2))] ++ [(5265, some (.row [(.int .i64 1), (.str [115]), (.slice none 0 0), (.slice (some (5267, 0)) 1 1), (.int .i64 5), (.str []), (.slice none 0 0), (.slice none 0 0), (.slice none 0 0), (.int .i64 0), (.int .i64 0), (.int .i64 0), (.int .i64 0), (.int .i64 0), (.slice none 0 0), (.slice none 0 0), (.int .i64 0), (.int .i64 0), (.slice none 0 0), (.bool false), (.int .i64 0), (.int .i64 0), (.slice none 0 0), (.int .i64 0), (.int .i64 0), (.int .i64 5), (.str [103]), (.slice (some (5269, 0)) 1 1), (.slice none 0 0), (.int .i64 0), (.str []), (.slice none 0 0), (.slice none 0 0), (.slice none 0 0), (.int .i64 1), (.int .i64 10), (.int .i64 0), (.int .i64 0), (.int .i64 0), (.slice (some (5271, 0)) 1 1), (.slice (some (5273, 0)) 1 1), (.int .i64 0), (.int .i64 0), (.slice none 0 0), (.bool false), (.int .i64 0), (.int .i64 0), (.slice none 0 0), (.int .i64 0), (.int .i64 0), (.int .i64 9), (.str [111, 117, 116]), (.slice (some (5275, 0)) 1 1), (.slice none 0 0), (.int .i64 0), (.str []), (.slice none 0 0), (.slice none 0 0), (.slice none 0 0), (.int .i64 0), (.int .i64 0), (.int .i64 0), (.int .i64 0), (.int .i64 0), (.slice none 0 0), (.slice none 0 0), (.int .i64 0), (.int .i64 0), (.slice none 0 0), (.bool false), (.int .i64 0), (.int .i64 1), (.slice none 0 0), (.int .i64 0), (.int .i64 0)] 110 true 25)), (5267, some (.row [(.str [118]), (.int .i64 1)] 139 true 2)), (5269, some (.row [(.int .i64 0)] 3 true 1)), (5271, some (.row [(.int .i64 1), (.int .i64 0)] 141 true 2)), (5273, some (.row [(.str [110])] 9 true 1)), (5275, some (.row [(.int .i64 1)] 3 true 1)), (5278, some (.row [(.slice (some (5073, 0)) 1 1)] 102 true 1))] ++ [(5280, some (.row [(.bool true)] 4 true 1))]

def m55 : Ev.Note where
  f := 409
  args := [(.slice (some (332, 0)) 3 3), (.int .i64 1), (.int .i64 0), (.slice (some (4900, 0)) 1 1)]
  n := 4981
  old := c5 ++ c6 ++ c73
  v := (.tuple [(.str []), (.bool true), (.int .i64 0)])
  m := 5359
  fin := []

def m56 : Ev.Note where
  f := 110
  args := [(.slice (some (332, 0)) 3 3)]
  n := 5440
  old := c5 ++ c6
  v := (.bool true)
  m := 5518
  fin := []

def m57 : Ev.Note where
  f := 489
  args := [(.slice (some (332, 0)) 3 3)]
  n := 5585
  old := c5 ++ c6
  v := (.tuple [(.slice (some (5651, 0)) 3 3), (.int .i64 0)])
  m := 5656
  fin := [(5651, some (.row [(.bool true), (.bool true), (.bool true)] 4 false 1))]

def m58 : Ev.Note where
  f := 401
  args := [(.slice (some (332, 0)) 3 3), (.int .i64 1), (.int .i64 1), (.int .i64 0), (.int .i64 1)]
  n := 5518
  old := c5 ++ c6
  v := (.agg [(.slice (some (5724, 0)) 3 3), (.int .i64 1), (.int .i64 5), (.str [103]), (.slice (some (5728, 0)) 1 1), (.slice none 0 0), (.int .i64 0), (.str []), (.slice none 0 0), (.slice none 0 0), (.slice none 0 0), (.int .i64 1), (.int .i64 10), (.int .i64 0), (.int .i64 0), (.int .i64 0), (.slice (some (5730, 0)) 1 1), (.slice (some (5732, 0)) 1 1), (.int .i64 0), (.int .i64 0), (.slice none 0 0), (.bool false), (.int .i64 0), (.int .i64 0), (.slice none 0 0), (.int .i64 0), (.int .i64 0), (.slice (some (5737, 0)) 1 1), (.bool true), (.slice (some (5739, 0)) 1 1), (.bool true), (.int .i64 1), (.int .i64 0), (.int .i64 1)])
  m := 5740
  fin := [(5532, some (.row [(.str [118]), (.int .i64 1)] 139 true 2))] ++ [(5724, some (.row [(.int .i64 1), (.str [115]), (.slice none 0 0), (.slice (some (5726, 0)) 1 1), (.int .i64 5), (.str []), (.slice none 0 0), (.slice none 0 0), (.slice none 0 0), (.int .i64 0), (.int .i64 0), (.int .i64 0), (.int .i64 0), (.int .i64 0), (.slice none 0 0), (.slice none 0 0), (.int .i64 0), (.int .i64 0), (.slice none 0 0), (.bool false), (.int .i64 0), (.int .i64 0), (.slice none 0 0), (.int .i64 0), (.int .i64 0), (.int .i64 5), (.str [103]), (.slice (some (5728, 0)) 1 1), (.slice none 0 0), (.int .i64 0), (.str []), (.slice none 0 0), (.slice none 0 0), (.slice none 0 0), (.int .i64 1), (.int .i64 10), (.int .i64 0), (.int .i64 0), (.int .i64 0), (.slice (some (5730, 0)) 1 1), (.slice (some (5732, 0)) 1 1), (.int .i64 0), (.int .i64 0), (.slice none 0 0), (.bool false), (.int .i64 0), (.int .i64 0), (.slice none 0 0), (.int .i64 0), (.int .i64 0), (.int .i64 9), (.str [111, 117, 116]), (.slice (some (5734, 0)) 1 1), (.slice none 0 0), (.int .i64 0), (.str []), (.slice none 0 0), (.slice none 0 0), (.slice none 0 0), (.int .i64 0), (.int .i64 0), (.int .i64 0), (.int .i64 0), (.int .i64 0), (.slice none 0 0), (.slice none 0 0), (.int .i64 0), (.int .i64 0), (.slice none 0 0), (.bool false), (.int .i64 0), (.int .i64 1), (.slice none 0 0), (.int .i64 0), (.int .i64 0)] 110 true 25)), (5726, some (.row [(.str [118]), (.int .i64 1)] 139 true 2)), (5728, some (.row [(.int .i64 0)] 3 true 1)), (5730, some (.row [(.int .i64 1), (.int .i64 0)] 141 true 2)), (5732, some (.row [(.str [110])] 9 true 1)), (5734, some (.row [(.int .i64 1)] 3 true 1)), (5737, some (.row [(.slice (some (5532, 0)) 1 1)] 102 true 1)), (5739, some (.row [(.bool true)] 4 true 1))]

def m59 : Ev.Note where
  f := 409
  args := [(.slice (some (332, 0)) 3 3), (.int .i64 1), (.int .i64 0), (.slice (some (4900, 0)) 1 1)]
  n := 5440
  old := c5 ++ c6 ++ c73
  v := (.tuple [(.str []), (.bool true), (.int .i64 0)])
  m := 5818
  fin := []

def m60 : Ev.Note where
  f := 316
  args := [(.ptr (some (347, 0))), (.int .i64 1), (.slice (some (4900, 0)) 1 1)]
  n := 5372
  old := c7 ++ c8 ++ c74 ++ c5 ++ c75 ++ c50 ++ c13 ++ c56 ++ c57 ++ c76 ++ [(3009, .row [(.int .i64 3)] 3 true 1), (3011, .row [(.int .i64 3), (.int .i64 2), (.int .i64 0), (.slice (some (3056, 0)) 2 2), (.slice none 0 0), (.int .i64 (-1000000000000)), (.ptr (some (3073, 0))), (.ptr (some (4680, 0))), (.slice (some (3081, 0)) 2 2), (.ptr (some (4786, 0)))] 246 false 1), (3013, .row [(.iface 178 (.ptr (some (2854, 0)))), (.iface 241 (.ptr (some (2929, 0)))), (.iface 241 (.ptr (some (2936, 0)))), (.iface 241 (.ptr (some (3011, 0))))] 170 true 1), (3017, .map [] 0), (3018, .map [] 0), (3019, .row [(.slice (some (5371, 0)) 1 1), (.int .i64 2), (.int .i64 2), (.int .i64 1000), (.int .i64 0), (.int .i64 0), (.map (some 3017)), (.slice none 0 0), (.map (some 3018)), (.int .i64 1)] 226 false 1), (3020, .row [(.int .i64 0), (.int .i64 1), (.int .i64 0), (.ptr (some (3019, 0))), (.slice none 0 0)] 129 false 1)] ++ c60 ++ c77 ++ c62 ++ c78 ++ c79 ++ c80 ++ c81 ++ c82 ++ c83 ++ c84 ++ c85 ++ c86 ++ c87 ++ c88 ++ [(5369, .row [(.int .i64 1), (.int .i64 7), (.str [])] 51 true 3), (5371, .row [(.int .i64 1), (.int .i64 0), (.int .i64 1), (.slice (some (5369, 0)) 1 1), (.int .i64 1)] 256 true 5)]
  v := (.bool false)
  m := 5818
  fin := []

def m61 : Ev.Note where
  f := 213
  args := [(.ptr (some (2854, 0))), (.ptr (some (347, 0)))]
  n := 4895
  old := c7 ++ c8 ++ c74 ++ c5 ++ c75 ++ c50 ++ c13 ++ c56 ++ c57 ++ c76 ++ c89 ++ c60 ++ c61 ++ c62 ++ c90 ++ c91 ++ c80 ++ c81 ++ c82 ++ c83 ++ c84 ++ c85 ++ c86 ++ c87
  v := (.int .i64 0)
  m := 5834
  fin := [(2854, some (.row [(.int .i64 0), (.int .i64 0), (.int .i64 0), (.slice none 0 0), (.slice (some (3034, 0)) 2 2), (.int .i64 (-3)), (.ptr none), (.ptr (some (3257, 0)))] 185 false 1))] ++ [(3019, some (.row [(.slice (some (5825, 0)) 2 2), (.int .i64 2), (.int .i64 2), (.int .i64 1000), (.int .i64 0), (.int .i64 0), (.map (some 3017)), (.slice none 0 0), (.map (some 3018)), (.int .i64 2)] 226 false 1))] ++ [(3029, some (.row [(.slice (some (5833, 0)) 1 1), (.int .i64 2), (.int .i64 2), (.int .i64 1000), (.int .i64 0), (.int .i64 0), (.map (some 3027)), (.slice none 0 0), (.map (some 3028)), (.int .i64 1)] 226 false 1))] ++ [(3084, some (.map [⟨(.int .i64 0), (.slice (some (4910, 0)) 1 1), 0⟩] 1))] ++ [(3259, some (.row [(.int .i64 (-3)), (.bool false), (.bool false)] 355 false 1)), (3260, some (.row [(.slice (some (3259, 0)) 1 1), (.int .i64 (-3))] 352 false 1))] ++ [(3281, some (.row [(.int .i64 5), (.int .i64 (-3)), (.bool false)] 347 false 1)), (3295, some (.row [(.str [112]), (.slice (some (3291, 0)) 2 2), (.int .i64 1), (.ptr (some (3281, 0))), (.bool true), (.int .i64 0)] 167 false 1))] ++ [(4900, some (.row [(.int .i64 1), (.int .i64 7), (.str [])] 51 true 3)), (4910, some (.row [(.int .i64 1), (.slice (some (4900, 0)) 1 1)] 55 true 2))] ++ c92 ++ c93

def m62 : Ev.Note where
  f := 81
  args := [(.ptr (some (347, 0))), (.int .i64 1)]
  n := 5834
  old := c7 ++ c8 ++ c74 ++ c5 ++ c75 ++ c50 ++ c13 ++ c56 ++ c94 ++ c76 ++ [(3009, .row [(.int .i64 3)] 3 true 1), (3011, .row [(.int .i64 3), (.int .i64 2), (.int .i64 0), (.slice (some (3056, 0)) 2 2), (.slice none 0 0), (.int .i64 (-1000000000000)), (.ptr (some (3073, 0))), (.ptr (some (4680, 0))), (.slice (some (3081, 0)) 2 2), (.ptr (some (4786, 0)))] 246 false 1), (3013, .row [(.iface 178 (.ptr (some (2854, 0)))), (.iface 241 (.ptr (some (2929, 0)))), (.iface 241 (.ptr (some (2936, 0)))), (.iface 241 (.ptr (some (3011, 0))))] 170 true 1), (3017, .map [] 0), (3018, .map [] 0), (3019, .row [(.slice (some (5825, 0)) 2 2), (.int .i64 2), (.int .i64 2), (.int .i64 1000), (.int .i64 0), (.int .i64 0), (.map (some 3017)), (.slice none 0 0), (.map (some 3018)), (.int .i64 2)] 226 false 1), (3020, .row [(.int .i64 0), (.int .i64 1), (.int .i64 0), (.ptr (some (3019, 0))), (.slice none 0 0)] 129 false 1)] ++ c95 ++ c77 ++ c62 ++ c78 ++ c79 ++ c80 ++ c81 ++ c82 ++ c83 ++ c84 ++ c85 ++ c86 ++ c87 ++ c88 ++ c96 ++ c97
  v := (.tuple [(.bool true), (.int .i64 0)])
  m := 5870
  fin := [(3018, some (.map [⟨(.int .i64 0), (.ptr (some (5869, 0))), 0⟩] 1)), (3019, some (.row [(.slice (some (5825, 0)) 0 0), (.int .i64 2), (.int .i64 1), (.int .i64 1000), (.int .i64 1), (.int .i64 0), (.map (some 3017)), (.slice none 0 0), (.map (some 3018)), (.int .i64 2)] 226 false 1))] ++ [(5869, some (.row [(.clip (5825, 0) 2), (.int .i64 2)] 254 false 1))]

def m63 : Ev.Note where
  f := 81
  args := [(.ptr (some (347, 0))), (.int .i64 2)]
  n := 5870
  old := c7 ++ c8 ++ c74 ++ c5 ++ c75 ++ c50 ++ c13 ++ c56 ++ c94 ++ c76 ++ c98 ++ c95 ++ c77 ++ c62 ++ c78 ++ c79 ++ c80 ++ c81 ++ c82 ++ c83 ++ c84 ++ c85 ++ c86 ++ c87 ++ c88 ++ c96 ++ c97 ++ c99
  v := (.tuple [(.bool true), (.int .i64 0)])
  m := 5909
  fin := [(3028, some (.map [⟨(.int .i64 0), (.ptr (some (5908, 0))), 0⟩] 1)), (3029, some (.row [(.slice (some (5833, 0)) 0 0), (.int .i64 2), (.int .i64 1), (.int .i64 1000), (.int .i64 1), (.int .i64 0), (.map (some 3027)), (.slice none 0 0), (.map (some 3028)), (.int .i64 1)] 226 false 1))] ++ [(5908, some (.row [(.clip (5833, 0) 1), (.int .i64 1)] 254 false 1))]

def m64 : Ev.Note where
  f := 110
  args := [(.slice (some (332, 0)) 3 3)]
  n := 6036
  old := c5 ++ c6
  v := (.bool true)
  m := 6114
  fin := []

def m65 : Ev.Note where
  f := 489
  args := [(.slice (some (332, 0)) 3 3)]
  n := 6181
  old := c5 ++ c6
  v := (.tuple [(.slice (some (6247, 0)) 3 3), (.int .i64 0)])
  m := 6252
  fin := [(6247, some (.row [(.bool true), (.bool true), (.bool true)] 4 false 1))]

def m66 : Ev.Note where
  f := 401
  args := [(.slice (some (332, 0)) 3 3), (.int .i64 1), (.int .i64 1), (.int .i64 0), (.int .i64 1)]
  n := 6114
  old := c5 ++ c6
  v := (.agg [(.slice (some (6320, 0)) 3 3), (.int .i64 1), (.int .i64 5), (.str [103]), (.slice (some (6324, 0)) 1 1), (.slice none 0 0), (.int .i64 0), (.str []), (.slice none 0 0), (.slice none 0 0), (.slice none 0 0), (.int .i64 1), (.int .i64 10), (.int .i64 0), (.int .i64 0), (.int .i64 0), (.slice (some (6326, 0)) 1 1), (.slice (some (6328, 0)) 1 1), (.int .i64 0), (.int .i64 0), (.slice none 0 0), (.bool false), (.int .i64 0), (.int .i64 0), (.slice none 0 0), (.int .i64 0), (.int .i64 0), (.slice (some (6333, 0)) 1 1), (.bool true), (.slice (some (6335, 0)) 1 1), (.bool true), (.int .i64 1), (.int .i64 0), (.int .i64 1)])
  m := 6336
  fin := [(6128, some (.row [(.str [118]), (.int .i64 1)] 139 true 2))] ++ [(6320, some (.row [(.int .i64 1), (.str [115]), (.slice none 0 0), (.slice (some (6322, 0)) 1 1), (.int .i64 5), (.str []), (.slice none 0 0), (.slice none 0 0), (.slice none 0 0), (.int .i64 0), (.int .i64 0), (.int .i64 0), (.int .i64 0), (.int .i64 0), (.slice none 0 0), (.slice none 0 0), (.int .i64 0), (.int .i64 0), (.slice none 0 0), (.bool false), (.int .i64 0), (.int .i64 0), (.slice none 0 0), (.int .i64 0), (.int .i64 0), (.int .i64 5), (.str [103]), (.slice (some (6324, 0)) 1 1), (.slice none 0 0), (.int .i64 0), (.str []), (.slice none 0 0), (.slice none 0 0), (.slice none 0 0), (.int .i64 1), (.int .i64 10), (.int .i64 0), (.int .i64 0), (.int .i64 0), (.slice (some (6326, 0)) 1 1), (.slice (some (6328, 0)) 1 1), (.int .i64 0), (.int .i64 0), (.slice none 0 0), (.bool false), (.int .i64 0), (.int .i64 0), (.slice none 0 0), (.int .i64 0), (.int .i64 0), (.int .i64 9), (.str [111, 117, 116]), (.slice (some (6330, 0)) 1 1), (.slice none 0 0), (.int .i64 0), (.str []), (.slice none 0 0), (.slice none 0 0), (.slice none 0 0), (.int .i64 0), (.int .i64 0), (.int .i64 0), (.int .i64 0), (.int .i64 0), (.slice none 0 0), (.slice none 0 0), (.int .i64 0), (.int .i64 0), (.slice none 0 0), (.bool false), (.int .i64 0), (.int .i64 1), (.slice none 0 0), (.int .i64 0), (.int .i64 0)] 110 true 25)), (6322, some (.row [(.str [118]), (.int .i64 1)] 139 true 2)), (6324, some (.row [(.int .i64 0)] 3 true 1)), (6326, some (.row [(.int .i64 1), (.int .i64 0)] 141 true 2)), (6328, some (.row [(.str [110])] 9 true 1)), (6330, some (.row [(.int .i64 1)] 3 true 1)), (6333, some (.row [(.slice (some (6128, 0)) 1 1)] 102 true 1)), (6335, some (.row [(.bool true)] 4 true 1))]

def m67 : Ev.Note where
  f := 409
  args := [(.slice (some (332, 0)) 3 3), (.int .i64 1), (.int .i64 0), (.slice (some (5955, 0)) 1 1)]
  n := 6036
  old := c5 ++ c6 ++ c100
  v := (.tuple [(.str []), (.bool true), (.int .i64 0)])
  m := 6414
  fin := []

def m68 : Ev.Note where
  f := 110
  args := [(.slice (some (332, 0)) 3 3)]
  n := 6495
  old := c5 ++ c6
  v := (.bool true)
  m := 6573
  fin := []

def m69 : Ev.Note where
  f := 489
  args := [(.slice (some (332, 0)) 3 3)]
  n := 6640
  old := c5 ++ c6
  v := (.tuple [(.slice (some (6706, 0)) 3 3), (.int .i64 0)])
  m := 6711
  fin := [(6706, some (.row [(.bool true), (.bool true), (.bool true)] 4 false 1))]

def m70 : Ev.Note where
  f := 401
  args := [(.slice (some (332, 0)) 3 3), (.int .i64 1), (.int .i64 1), (.int .i64 0), (.int .i64 1)]
  n := 6573
  old := c5 ++ c6
  v := (.agg [(.slice (some (6779, 0)) 3 3), (.int .i64 1), (.int .i64 5), (.str [103]), (.slice (some (6783, 0)) 1 1), (.slice none 0 0), (.int .i64 0), (.str []), (.slice none 0 0), (.slice none 0 0), (.slice none 0 0), (.int .i64 1), (.int .i64 10), (.int .i64 0), (.int .i64 0), (.int .i64 0), (.slice (some (6785, 0)) 1 1), (.slice (some (6787, 0)) 1 1), (.int .i64 0), (.int .i64 0), (.slice none 0 0), (.bool false), (.int .i64 0), (.int .i64 0), (.slice none 0 0), (.int .i64 0), (.int .i64 0), (.slice (some (6792, 0)) 1 1), (.bool true), (.slice (some (6794, 0)) 1 1), (.bool true), (.int .i64 1), (.int .i64 0), (.int .i64 1)])
  m := 6795
  fin := [(6587, some (.row [(.str [118]), (.int .i64 1)] 139 true 2))] ++ [(6779, some (.row [(.int .i64 1), (.str [115]), (.slice none 0 0), (.slice (some (6781, 0)) 1 1), (.int .i64 5), (.str []), (.slice none 0 0), (.slice none 0 0), (.slice none 0 0), (.int .i64 0), (.int .i64 0), (.int .i64 0), (.int .i64 0), (.int .i64 0), (.slice none 0 0), (.slice none 0 0), (.int .i64 0), (.int .i64 0), (.slice none 0 0), (.bool false), (.int .i64 0), (.int .i64 0), (.slice none 0 0), (.int .i64 0), (.int .i64 0), (.int .i64 5), (.str [103]), (.slice (some (6783, 0)) 1 1), (.slice none 0 0), (.int .i64 0), (.str []), (.slice none 0 0), (.slice none 0 0), (.slice none 0 0), (.int .i64 1), (.int .i64 10), (.int .i64 0), (.int .i64 0), (.int .i64 0), (.slice (some (6785, 0)) 1 1), (.slice (some (6787, 0)) 1 1), (.int .i64 0), (.int .i64 0), (.slice none 0 0), (.bool false), (.int .i64 0), (.int .i64 0), (.slice none 0 0), (.int .i64 0), (.int .i64 0), (.int .i64 9), (.str [111, 117, 116]), (.slice (some (6789, 0)) 1 1), (.slice none 0 0), (.int .i64 0), (.str []), (.slice none 0 0), (.slice none 0 0), (.slice none 0 0), (.int .i64 0), (.int .i64 0), (.int .i64 0), (.int .i64 0), (.int .i64 0), (.slice none 0 0), (.slice none 0 0), (.int .i64 0), (.int .i64 0), (.slice none 0 0), (.bool false), (.int .i64 0), (.int .i64 1), (.slice none 0 0), (.int .i64 0), (.int .i64 0)] 110 true 25)), (6781, some (.row [(.str [118]), (.int .i64 1)] 139 true 2)), (6783, some (.row [(.int .i64 0)] 3 true 1)), (6785, some (.row [(.int .i64 1), (.int .i64 0)] 141 true 2)), (6787, some (.row [(.str [110])] 9 true 1)), (6789, some (.row [(.int .i64 1)] 3 true 1)), (6792, some (.row [(.slice (some (6587, 0)) 1 1)] 102 true 1)), (6794, some (.row [(.bool true)] 4 true 1))]

def m71 : Ev.Note where
  f := 409
  args := [(.slice (some (332, 0)) 3 3), (.int .i64 1), (.int .i64 0), (.slice (some (5955, 0)) 1 1)]
  n := 6495
  old := c5 ++ c6 ++ c100
  v := (.tuple [(.str []), (.bool true), (.int .i64 0)])
  m := 6873
  fin := []

def m72 : Ev.Note where
  f := 316
  args := [(.ptr (some (347, 0))), (.int .i64 1), (.slice (some (5955, 0)) 1 1)]
  n := 6427
  old := c7 ++ c8 ++ c74 ++ c5 ++ c75 ++ c50 ++ c13 ++ c56 ++ c94 ++ c76 ++ [(3009, .row [(.int .i64 3)] 3 true 1), (3011, .row [(.int .i64 3), (.int .i64 2), (.int .i64 0), (.slice (some (3056, 0)) 2 2), (.slice none 0 0), (.int .i64 (-1000000000000)), (.ptr (some (3073, 0))), (.ptr (some (4680, 0))), (.slice (some (3081, 0)) 2 2), (.ptr (some (4786, 0)))] 246 false 1), (3013, .row [(.iface 178 (.ptr (some (2854, 0)))), (.iface 241 (.ptr (some (2929, 0)))), (.iface 241 (.ptr (some (2936, 0)))), (.iface 241 (.ptr (some (3011, 0))))] 170 true 1), (3017, .map [] 0), (3018, .map [⟨(.int .i64 0), (.ptr (some (5869, 0))), 0⟩] 1), (3019, .row [(.slice (some (6426, 0)) 1 1), (.int .i64 2), (.int .i64 1), (.int .i64 1000), (.int .i64 1), (.int .i64 0), (.map (some 3017)), (.slice none 0 0), (.map (some 3018)), (.int .i64 3)] 226 false 1), (3020, .row [(.int .i64 0), (.int .i64 1), (.int .i64 0), (.ptr (some (3019, 0))), (.slice none 0 0)] 129 false 1)] ++ c101 ++ c102 ++ c62 ++ c103 ++ c104 ++ c80 ++ c81 ++ c82 ++ c83 ++ c84 ++ c85 ++ c86 ++ c87 ++ c73 ++ c96 ++ c97 ++ c99 ++ c105 ++ c106 ++ [(6424, .row [(.int .i64 1), (.int .i64 8), (.str [])] 51 true 3), (6426, .row [(.int .i64 1), (.int .i64 0), (.int .i64 2), (.slice (some (6424, 0)) 1 1), (.int .i64 1)] 256 true 5)]
  v := (.bool false)
  m := 6873
  fin := []

def m73 : Ev.Note where
  f := 213
  args := [(.ptr (some (2854, 0))), (.ptr (some (347, 0)))]
  n := 5950
  old := c7 ++ c8 ++ c74 ++ c5 ++ c75 ++ c50 ++ c13 ++ c56 ++ c94 ++ c76 ++ c98 ++ c101 ++ c77 ++ c62 ++ c78 ++ c79 ++ c80 ++ c81 ++ c82 ++ c83 ++ c84 ++ c85 ++ c86 ++ c87 ++ c88 ++ c96 ++ c97 ++ c99 ++ c105
  v := (.int .i64 0)
  m := 6889
  fin := c107 ++ c108 ++ c109 ++ c110 ++ c111 ++ c112 ++ [(4910, none)] ++ c113 ++ c114 ++ c115

def m74 : Ev.Note where
  f := 81
  args := [(.ptr (some (347, 0))), (.int .i64 3)]
  n := 5909
  old := c7 ++ c8 ++ c74 ++ c5 ++ c75 ++ c50 ++ c13 ++ c56 ++ c94 ++ c76 ++ c98 ++ c101 ++ c77 ++ c62 ++ c78 ++ c79 ++ c80 ++ c81 ++ c82 ++ c83 ++ c84 ++ c85 ++ c86 ++ c87 ++ c88 ++ c96 ++ c97 ++ c99 ++ c105
  v := (.tuple [(.bool true), (.int .i64 0)])
  m := 6889
  fin := c107 ++ c108 ++ c109 ++ c110 ++ c111 ++ c112 ++ [(4910, none)] ++ c113 ++ c114 ++ c115

def m75 : Ev.Note where
  f := 81
  args := [(.ptr (some (347, 0))), (.int .i64 4)]
  n := 6889
  old := c7 ++ c8 ++ c74 ++ c5 ++ c75 ++ c50 ++ c13 ++ c56 ++ c116 ++ c76 ++ [(3009, .row [(.int .i64 3)] 3 true 1), (3011, .row [(.int .i64 3), (.int .i64 2), (.int .i64 0), (.slice (some (3056, 0)) 2 2), (.slice none 0 0), (.int .i64 (-1000000000000)), (.ptr (some (3073, 0))), (.ptr (some (4680, 0))), (.slice (some (3081, 0)) 2 2), (.ptr (some (4786, 0)))] 246 false 1), (3013, .row [(.iface 178 (.ptr (some (2854, 0)))), (.iface 241 (.ptr (some (2929, 0)))), (.iface 241 (.ptr (some (2936, 0)))), (.iface 241 (.ptr (some (3011, 0))))] 170 true 1), (3017, .map [] 0), (3018, .map [⟨(.int .i64 0), (.ptr (some (5869, 0))), 0⟩] 1), (3019, .row [(.slice (some (6880, 0)) 2 2), (.int .i64 2), (.int .i64 1), (.int .i64 1000), (.int .i64 1), (.int .i64 0), (.map (some 3017)), (.slice none 0 0), (.map (some 3018)), (.int .i64 4)] 226 false 1), (3020, .row [(.int .i64 0), (.int .i64 1), (.int .i64 0), (.ptr (some (3019, 0))), (.slice none 0 0)] 129 false 1)] ++ c117 ++ c102 ++ c62 ++ c103 ++ c104 ++ c80 ++ c81 ++ c82 ++ c83 ++ c84 ++ c85 ++ c86 ++ c87 ++ c73 ++ c96 ++ c97 ++ c99 ++ c105 ++ c106 ++ c118 ++ c119
  v := (.tuple [(.bool true), (.int .i64 0)])
  m := 6933
  fin := [(3018, some (.map [⟨(.int .i64 0), (.ptr (some (5869, 0))), 0⟩, ⟨(.int .i64 1), (.ptr (some (6932, 0))), 1⟩] 2)), (3019, some (.row [(.slice (some (6880, 0)) 0 0), (.int .i64 2), (.int .i64 0), (.int .i64 1000), (.int .i64 2), (.int .i64 0), (.map (some 3017)), (.slice none 0 0), (.map (some 3018)), (.int .i64 4)] 226 false 1))] ++ [(6932, some (.row [(.clip (6880, 0) 2), (.int .i64 2)] 254 false 1))]

def m76 : Ev.Note where
  f := 132
  args := [(.func (.func 202) [] [(.ptr (some (6939, 0)))])]
  n := 6940
  old := [(3018, .map [⟨(.int .i64 0), (.ptr (some (5869, 0))), 0⟩, ⟨(.int .i64 1), (.ptr (some (6932, 0))), 1⟩] 2)] ++ c96 ++ [(5825, .row [(.int .i64 1), (.int .i64 0), (.int .i64 1), (.slice (some (5369, 0)) 1 1), (.int .i64 1), (.int .i64 2), (.int .i64 (-3)), (.int .i64 0), (.slice none 0 0), (.int .i64 0)] 256 true 5)] ++ c99 ++ c118 ++ [(6880, .row [(.int .i64 1), (.int .i64 0), (.int .i64 2), (.slice (some (6424, 0)) 1 1), (.int .i64 1), (.int .i64 2), (.int .i64 1000000000001), (.int .i64 0), (.slice none 0 0), (.int .i64 0)] 256 true 5)] ++ [(6932, .row [(.clip (6880, 0) 2), (.int .i64 2)] 254 false 1), (6939, .row [(.map (some 3018))] 221 false 1)]
  v := (.slice (some (6947, 0)) 2 2)
  m := 6948
  fin := [(6947, some (.row [(.int .i64 0), (.int .i64 1)] 3 true 1))]

def m77 : Ev.Note where
  f := 81
  args := [(.ptr (some (347, 0))), (.int .i64 5)]
  n := 6933
  old := c7 ++ c8 ++ c74 ++ c5 ++ c75 ++ c50 ++ c13 ++ c56 ++ c116 ++ c76 ++ [(3009, .row [(.int .i64 3)] 3 true 1), (3011, .row [(.int .i64 3), (.int .i64 2), (.int .i64 0), (.slice (some (3056, 0)) 2 2), (.slice none 0 0), (.int .i64 (-1000000000000)), (.ptr (some (3073, 0))), (.ptr (some (4680, 0))), (.slice (some (3081, 0)) 2 2), (.ptr (some (4786, 0)))] 246 false 1), (3013, .row [(.iface 178 (.ptr (some (2854, 0)))), (.iface 241 (.ptr (some (2929, 0)))), (.iface 241 (.ptr (some (2936, 0)))), (.iface 241 (.ptr (some (3011, 0))))] 170 true 1), (3017, .map [] 0), (3018, .map [⟨(.int .i64 0), (.ptr (some (5869, 0))), 0⟩, ⟨(.int .i64 1), (.ptr (some (6932, 0))), 1⟩] 2), (3019, .row [(.slice (some (6880, 0)) 0 0), (.int .i64 2), (.int .i64 0), (.int .i64 1000), (.int .i64 2), (.int .i64 0), (.map (some 3017)), (.slice none 0 0), (.map (some 3018)), (.int .i64 4)] 226 false 1), (3020, .row [(.int .i64 0), (.int .i64 1), (.int .i64 0), (.ptr (some (3019, 0))), (.slice none 0 0)] 129 false 1)] ++ c117 ++ c102 ++ c62 ++ c103 ++ c104 ++ c80 ++ c81 ++ c82 ++ c83 ++ c84 ++ c85 ++ c86 ++ c87 ++ c73 ++ c96 ++ c97 ++ c99 ++ c105 ++ c106 ++ c118 ++ c119 ++ c120
  v := (.tuple [(.bool true), (.int .i64 0)])
  m := 6981
  fin := [(3017, some (.map [⟨(.int .i64 1), (.ptr (some (6932, 0))), 0⟩] 1)), (3018, some (.map [⟨(.int .i64 0), (.ptr (some (5869, 0))), 0⟩] 2)), (3020, some (.row [(.int .i64 0), (.int .i64 1), (.int .i64 0), (.ptr (some (3019, 0))), (.slice (some (6980, 0)) 1 1)] 129 false 1))] ++ [(6980, some (.row [(.int .i64 1)] 3 true 1))]

def m78 : Ev.Note where
  f := 81
  args := [(.ptr (some (347, 0))), (.int .i64 6)]
  n := 6981
  old := c7 ++ c8 ++ c74 ++ c5 ++ c75 ++ c50 ++ c13 ++ c56 ++ c116 ++ c76 ++ [(3009, .row [(.int .i64 3)] 3 true 1), (3011, .row [(.int .i64 3), (.int .i64 2), (.int .i64 0), (.slice (some (3056, 0)) 2 2), (.slice none 0 0), (.int .i64 (-1000000000000)), (.ptr (some (3073, 0))), (.ptr (some (4680, 0))), (.slice (some (3081, 0)) 2 2), (.ptr (some (4786, 0)))] 246 false 1), (3013, .row [(.iface 178 (.ptr (some (2854, 0)))), (.iface 241 (.ptr (some (2929, 0)))), (.iface 241 (.ptr (some (2936, 0)))), (.iface 241 (.ptr (some (3011, 0))))] 170 true 1), (3017, .map [⟨(.int .i64 1), (.ptr (some (6932, 0))), 0⟩] 1), (3018, .map [⟨(.int .i64 0), (.ptr (some (5869, 0))), 0⟩] 2), (3019, .row [(.slice (some (6880, 0)) 0 0), (.int .i64 2), (.int .i64 0), (.int .i64 1000), (.int .i64 2), (.int .i64 0), (.map (some 3017)), (.slice none 0 0), (.map (some 3018)), (.int .i64 4)] 226 false 1), (3020, .row [(.int .i64 0), (.int .i64 1), (.int .i64 0), (.ptr (some (3019, 0))), (.slice (some (6980, 0)) 1 1)] 129 false 1)] ++ c117 ++ c102 ++ c62 ++ c103 ++ c104 ++ c80 ++ c81 ++ c82 ++ c83 ++ c84 ++ c85 ++ c86 ++ c87 ++ c73 ++ c96 ++ c97 ++ c99 ++ c105 ++ c106 ++ c118 ++ c119 ++ c120 ++ [(6980, .row [(.int .i64 1)] 3 true 1)]
  v := (.tuple [(.bool true), (.int .i64 0)])
  m := 7036
  fin := [(3017, some (.map [] 2)), (3018, some (.map [] 2)), (3019, some (.row [(.slice (some (6880, 0)) 0 0), (.int .i64 2), (.int .i64 0), (.int .i64 1000), (.int .i64 2), (.int .i64 2), (.map (some 3017)), (.slice (some (7035, 0)) 4 4), (.map (some 3018)), (.int .i64 4)] 226 false 1)), (3020, some (.row [(.int .i64 0), (.int .i64 1), (.int .i64 0), (.ptr (some (3019, 0))), (.slice (some (7023, 0)) 2 2)] 129 false 1))] ++ [(6980, none)] ++ c121

def m79 : Ev.Note where
  f := 81
  args := [(.ptr (some (347, 0))), (.int .i64 7)]
  n := 7036
  old := c7 ++ c8 ++ c74 ++ c5 ++ c75 ++ c50 ++ c13 ++ c56 ++ c116 ++ c76 ++ c122 ++ c117 ++ c102 ++ c62 ++ c103 ++ c104 ++ c80 ++ c81 ++ c82 ++ c83 ++ c84 ++ c85 ++ c86 ++ c87 ++ c73 ++ c96 ++ c97 ++ c99 ++ c105 ++ c106 ++ c118 ++ c119 ++ c120 ++ c123
  v := (.tuple [(.bool true), (.int .i64 0)])
  m := 7075
  fin := [(3028, some (.map [⟨(.int .i64 0), (.ptr (some (5908, 0))), 0⟩, ⟨(.int .i64 1), (.ptr (some (7074, 0))), 1⟩] 2)), (3029, some (.row [(.slice (some (6888, 0)) 0 0), (.int .i64 2), (.int .i64 0), (.int .i64 1000), (.int .i64 2), (.int .i64 0), (.map (some 3027)), (.slice none 0 0), (.map (some 3028)), (.int .i64 2)] 226 false 1))] ++ [(7074, some (.row [(.clip (6888, 0) 1), (.int .i64 1)] 254 false 1))]

def m80 : Ev.Note where
  f := 132
  args := [(.func (.func 202) [] [(.ptr (some (7089, 0)))])]
  n := 7090
  old := [(3028, .map [⟨(.int .i64 0), (.ptr (some (5908, 0))), 0⟩, ⟨(.int .i64 1), (.ptr (some (7074, 0))), 1⟩] 2)] ++ [(5833, .row [(.int .i64 2), (.int .i64 (-3)), (.int .i64 0), (.slice none 0 0), (.int .i64 0)] 256 true 5)] ++ c105 ++ [(6888, .row [(.int .i64 2), (.int .i64 1000000000001), (.int .i64 0), (.slice none 0 0), (.int .i64 0)] 256 true 5)] ++ [(7074, .row [(.clip (6888, 0) 1), (.int .i64 1)] 254 false 1), (7089, .row [(.map (some 3028))] 221 false 1)]
  v := (.slice (some (7097, 0)) 2 2)
  m := 7098
  fin := [(7097, some (.row [(.int .i64 0), (.int .i64 1)] 3 true 1))]

def m81 : Ev.Note where
  f := 81
  args := [(.ptr (some (347, 0))), (.int .i64 8)]
  n := 7075
  old := c7 ++ c8 ++ c74 ++ c5 ++ c75 ++ c50 ++ c13 ++ c56 ++ c116 ++ c76 ++ c122 ++ [(3026, .row [(.int .i64 0)] 3 true 1), (3027, .map [] 0), (3028, .map [⟨(.int .i64 0), (.ptr (some (5908, 0))), 0⟩, ⟨(.int .i64 1), (.ptr (some (7074, 0))), 1⟩] 2), (3029, .row [(.slice (some (6888, 0)) 0 0), (.int .i64 2), (.int .i64 0), (.int .i64 1000), (.int .i64 2), (.int .i64 0), (.map (some 3027)), (.slice none 0 0), (.map (some 3028)), (.int .i64 2)] 226 false 1), (3030, .row [(.int .i64 0), (.int .i64 2), (.int .i64 0), (.ptr (some (3029, 0))), (.slice none 0 0)] 129 false 1), (3034, .row [(.int .i64 0), (.int .i64 1)] 3 true 1), (3036, .row [(.int .i64 1)] 3 true 1), (3037, .map [] 0), (3038, .map [] 0), (3039, .row [(.slice none 0 0), (.int .i64 2), (.int .i64 2), (.int .i64 1000), (.int .i64 0), (.int .i64 0), (.map (some 3037)), (.slice none 0 0), (.map (some 3038)), (.int .i64 0)] 226 false 1), (3040, .row [(.int .i64 1), (.int .i64 3), (.int .i64 0), (.ptr (some (3039, 0))), (.slice none 0 0)] 129 false 1), (3044, .row [(.int .i64 2)] 3 true 1), (3047, .map [] 0), (3048, .map [] 0), (3049, .row [(.slice none 0 0), (.int .i64 2), (.int .i64 2), (.int .i64 1000), (.int .i64 0), (.int .i64 0), (.map (some 3047)), (.slice none 0 0), (.map (some 3048)), (.int .i64 0)] 226 false 1), (3050, .row [(.int .i64 2), (.int .i64 3), (.int .i64 0), (.ptr (some (3049, 0))), (.slice none 0 0)] 129 false 1), (3052, .row [(.ptr (some (3020, 0))), (.ptr (some (3030, 0))), (.ptr (some (3040, 0))), (.ptr (some (3050, 0)))] 126 true 1), (3054, .row [(.int .i64 3)] 3 true 1), (3056, .row [(.int .i64 2), (.int .i64 3)] 3 true 1), (3058, .map [] 0), (3059, .row [(.slice (some (3062, 0)) 1 1), (.iface 419 (.agg [])), (.int .i64 0), (.int .i64 0), (.map (some 3058))] 418 false 1), (3060, .row [(.int .i64 0), (.bool false), (.slice none 0 0), (.bool false), (.bool false)] 422 false 1), (3062, .row [(.ptr (some (3060, 0)))] 420 true 1), (3064, .row [(.int .i64 (-1000000000000))] 3 false 1), (3065, .map [] 0), (3066, .row [(.slice (some (3069, 0)) 1 1), (.iface 419 (.agg [])), (.int .i64 0), (.int .i64 0), (.map (some 3065))] 418 false 1), (3067, .row [(.int .i64 0), (.bool false), (.slice none 0 0), (.bool false), (.bool false)] 422 false 1), (3069, .row [(.ptr (some (3067, 0)))] 420 true 1), (3071, .row [(.int .i64 (-1000000000000))] 3 false 1)] ++ c102 ++ c62 ++ c103 ++ c104 ++ c80 ++ c81 ++ c82 ++ c83 ++ c84 ++ c85 ++ c86 ++ c87 ++ c73 ++ c96 ++ c97 ++ c99 ++ c105 ++ c106 ++ c118 ++ c119 ++ c120 ++ c123 ++ c124
  v := (.tuple [(.bool true), (.int .i64 0)])
  m := 7118
  fin := [(3027, some (.map [⟨(.int .i64 1), (.ptr (some (7074, 0))), 0⟩] 1)), (3028, some (.map [⟨(.int .i64 0), (.ptr (some (5908, 0))), 0⟩] 2)), (3030, some (.row [(.int .i64 0), (.int .i64 2), (.int .i64 0), (.ptr (some (3029, 0))), (.slice (some (7117, 0)) 1 1)] 129 false 1))] ++ [(7117, some (.row [(.int .i64 1)] 3 true 1))]

def m82 : Ev.Note where
  f := 81
  args := [(.ptr (some (347, 0))), (.int .i64 9)]
  n := 7118
  old := c7 ++ c8 ++ c74 ++ c5 ++ c75 ++ c50 ++ c13 ++ c56 ++ c116 ++ c76 ++ c122 ++ [(3026, .row [(.int .i64 0)] 3 true 1), (3027, .map [⟨(.int .i64 1), (.ptr (some (7074, 0))), 0⟩] 1), (3028, .map [⟨(.int .i64 0), (.ptr (some (5908, 0))), 0⟩] 2), (3029, .row [(.slice (some (6888, 0)) 0 0), (.int .i64 2), (.int .i64 0), (.int .i64 1000), (.int .i64 2), (.int .i64 0), (.map (some 3027)), (.slice none 0 0), (.map (some 3028)), (.int .i64 2)] 226 false 1), (3030, .row [(.int .i64 0), (.int .i64 2), (.int .i64 0), (.ptr (some (3029, 0))), (.slice (some (7117, 0)) 1 1)] 129 false 1), (3034, .row [(.int .i64 0), (.int .i64 1)] 3 true 1), (3036, .row [(.int .i64 1)] 3 true 1), (3037, .map [] 0), (3038, .map [] 0), (3039, .row [(.slice none 0 0), (.int .i64 2), (.int .i64 2), (.int .i64 1000), (.int .i64 0), (.int .i64 0), (.map (some 3037)), (.slice none 0 0), (.map (some 3038)), (.int .i64 0)] 226 false 1), (3040, .row [(.int .i64 1), (.int .i64 3), (.int .i64 0), (.ptr (some (3039, 0))), (.slice none 0 0)] 129 false 1), (3044, .row [(.int .i64 2)] 3 true 1), (3047, .map [] 0), (3048, .map [] 0), (3049, .row [(.slice none 0 0), (.int .i64 2), (.int .i64 2), (.int .i64 1000), (.int .i64 0), (.int .i64 0), (.map (some 3047)), (.slice none 0 0), (.map (some 3048)), (.int .i64 0)] 226 false 1), (3050, .row [(.int .i64 2), (.int .i64 3), (.int .i64 0), (.ptr (some (3049, 0))), (.slice none 0 0)] 129 false 1), (3052, .row [(.ptr (some (3020, 0))), (.ptr (some (3030, 0))), (.ptr (some (3040, 0))), (.ptr (some (3050, 0)))] 126 true 1), (3054, .row [(.int .i64 3)] 3 true 1), (3056, .row [(.int .i64 2), (.int .i64 3)] 3 true 1), (3058, .map [] 0), (3059, .row [(.slice (some (3062, 0)) 1 1), (.iface 419 (.agg [])), (.int .i64 0), (.int .i64 0), (.map (some 3058))] 418 false 1), (3060, .row [(.int .i64 0), (.bool false), (.slice none 0 0), (.bool false), (.bool false)] 422 false 1), (3062, .row [(.ptr (some (3060, 0)))] 420 true 1), (3064, .row [(.int .i64 (-1000000000000))] 3 false 1), (3065, .map [] 0), (3066, .row [(.slice (some (3069, 0)) 1 1), (.iface 419 (.agg [])), (.int .i64 0), (.int .i64 0), (.map (some 3065))] 418 false 1), (3067, .row [(.int .i64 0), (.bool false), (.slice none 0 0), (.bool false), (.bool false)] 422 false 1), (3069, .row [(.ptr (some (3067, 0)))] 420 true 1), (3071, .row [(.int .i64 (-1000000000000))] 3 false 1)] ++ c102 ++ c62 ++ c103 ++ c104 ++ c80 ++ c81 ++ c82 ++ c83 ++ c84 ++ c85 ++ c86 ++ c87 ++ c73 ++ c96 ++ c97 ++ c99 ++ c105 ++ c106 ++ c118 ++ c119 ++ c120 ++ c123 ++ c124 ++ [(7117, .row [(.int .i64 1)] 3 true 1)]
  v := (.tuple [(.bool true), (.int .i64 0)])
  m := 7162
  fin := [(3027, some (.map [] 2)), (3028, some (.map [] 2)), (3029, some (.row [(.slice (some (6888, 0)) 0 0), (.int .i64 2), (.int .i64 0), (.int .i64 1000), (.int .i64 2), (.int .i64 2), (.map (some 3027)), (.slice (some (7161, 0)) 2 2), (.map (some 3028)), (.int .i64 2)] 226 false 1)), (3030, some (.row [(.int .i64 0), (.int .i64 2), (.int .i64 0), (.ptr (some (3029, 0))), (.slice (some (7155, 0)) 2 2)] 129 false 1))] ++ [(7117, none)] ++ c125

def m83 : Ev.Note where
  f := 559
  args := [(.agg [(.slice (some (3737, 0)) 3 3), (.int .i64 1), (.int .i64 5), (.str [103]), (.slice (some (3741, 0)) 1 1), (.slice none 0 0), (.int .i64 0), (.str []), (.slice none 0 0), (.slice none 0 0), (.slice none 0 0), (.int .i64 1), (.int .i64 10), (.int .i64 0), (.int .i64 0), (.int .i64 0), (.slice (some (3743, 0)) 1 1), (.slice (some (3745, 0)) 1 1), (.int .i64 0), (.int .i64 0), (.slice none 0 0), (.bool false), (.int .i64 0), (.int .i64 0), (.slice none 0 0), (.int .i64 0), (.int .i64 0), (.slice (some (3750, 0)) 1 1), (.bool true), (.slice (some (3752, 0)) 1 1), (.bool true), (.int .i64 4), (.int .i64 0), (.int .i64 2)]), (.int .i64 0), (.slice (some (7217, 0)) 1 1)]
  n := 7231
  old := c80 ++ c81 ++ c126 ++ c127
  v := (.int .i64 1)
  m := 7304
  fin := []

def m84 : Ev.Note where
  f := 430
  args := [(.ptr (some (2929, 0))), (.ptr (some (347, 0))), (.int .i64 0), (.agg [(.int .i64 1), (.int .i64 0), (.int .i64 1), (.slice (some (7217, 0)) 1 1), (.int .i64 1)])]
  n := 7221
  old := c7 ++ c8 ++ c74 ++ c5 ++ c75 ++ c50 ++ c13 ++ c56 ++ c116 ++ c76 ++ c128 ++ c129 ++ c102 ++ c62 ++ c103 ++ c104 ++ c80 ++ c81 ++ c82 ++ c83 ++ c84 ++ c85 ++ c86 ++ c87 ++ c73 ++ c96 ++ c97 ++ c130 ++ c105 ++ c106 ++ c118 ++ c119 ++ c120 ++ c123 ++ c124 ++ c131 ++ c127
  v := (.int .i64 0)
  m := 7418
  fin := c132 ++ c133 ++ c134

def m85 : Ev.Note where
  f := 81
  args := [(.ptr (some (347, 0))), (.int .i64 10)]
  n := 7162
  old := c7 ++ c8 ++ c74 ++ c5 ++ c75 ++ c50 ++ c13 ++ c56 ++ c116 ++ c76 ++ c122 ++ c129 ++ c102 ++ c62 ++ c103 ++ c104 ++ c80 ++ c81 ++ c82 ++ c83 ++ c84 ++ c85 ++ c86 ++ c87 ++ c73 ++ c96 ++ c97 ++ c99 ++ c105 ++ c106 ++ c118 ++ c119 ++ c120 ++ c123 ++ c124 ++ c131
  v := (.tuple [(.bool true), (.int .i64 0)])
  m := 7418
  fin := [(3019, some (.row [(.slice (some (6880, 0)) 0 0), (.int .i64 2), (.int .i64 0), (.int .i64 1000), (.int .i64 2), (.int .i64 2), (.map (some 3017)), (.slice (some (7035, 6)) 3 3), (.map (some 3018)), (.int .i64 3)] 226 false 1))] ++ c132 ++ [(5869, some (.row [(.clip (5825, 0) 2), (.int .i64 1)] 254 false 1))] ++ c133 ++ c134

def m86 : Ev.Note where
  f := 81
  args := [(.ptr (some (347, 0))), (.int .i64 11)]
  n := 7418
  old := c7 ++ c8 ++ c74 ++ c5 ++ c75 ++ c50 ++ c13 ++ c56 ++ c116 ++ c76 ++ c128 ++ c129 ++ c102 ++ c62 ++ c103 ++ c104 ++ c80 ++ c81 ++ c135 ++ c83 ++ c84 ++ c85 ++ c86 ++ c87 ++ c73 ++ c96 ++ c97 ++ c130 ++ c105 ++ c106 ++ c118 ++ c119 ++ c120 ++ c123 ++ c124 ++ c131 ++ c136 ++ c137
  v := (.tuple [(.bool true), (.int .i64 0)])
  m := 7500
  fin := [(2936, some (.row [(.int .i64 2), (.int .i64 1), (.int .i64 1), (.slice (some (3036, 0)) 1 1), (.slice (some (3054, 0)) 1 1), (.int .i64 (-3)), (.ptr (some (3066, 0))), (.ptr (some (4221, 0))), (.slice (some (3071, 0)) 1 1), (.ptr none)] 246 false 1))] ++ [(3029, some (.row [(.slice (some (6888, 0)) 0 0), (.int .i64 2), (.int .i64 1), (.int .i64 1000), (.int .i64 2), (.int .i64 2), (.map (some 3027)), (.slice (some (7161, 6)) 1 1), (.map (some 3028)), (.int .i64 1)] 226 false 1)), (3049, some (.row [(.slice (some (7499, 0)) 1 1), (.int .i64 2), (.int .i64 2), (.int .i64 1000), (.int .i64 0), (.int .i64 0), (.map (some 3047)), (.slice none 0 0), (.map (some 3048)), (.int .i64 1)] 226 false 1)), (3071, some (.row [(.int .i64 (-3))] 3 false 1))] ++ [(4221, some (.row [(.slice (some (4198, 0)) 3 3), (.int .i64 1), (.int .i64 5), (.str [103]), (.slice (some (4202, 0)) 1 1), (.slice none 0 0), (.int .i64 0), (.str []), (.slice none 0 0), (.slice none 0 0), (.slice none 0 0), (.int .i64 1), (.int .i64 10), (.int .i64 0), (.int .i64 0), (.int .i64 0), (.slice (some (4204, 0)) 1 1), (.slice (some (4206, 0)) 1 1), (.int .i64 0), (.int .i64 0), (.slice none 0 0), (.bool false), (.int .i64 0), (.int .i64 0), (.slice none 0 0), (.int .i64 0), (.int .i64 0), (.slice (some (4211, 0)) 1 1), (.bool true), (.slice (some (4213, 0)) 1 1), (.bool true), (.int .i64 4), (.int .i64 2), (.int .i64 4), (.ptr (some (7482, 0))), (.iface 553 (.ptr (some (4220, 0)))), (.int .i64 (-3)), (.int .i64 0), (.int .i64 0)] 341 false 1))] ++ c138 ++ [(7481, some (.row [(.int .i64 (-3)), (.bool false), (.bool false)] 355 false 1)), (7482, some (.row [(.slice (some (7481, 0)) 1 1), (.int .i64 (-3))] 352 false 1))] ++ [(7499, some (.row [(.int .i64 2), (.int .i64 (-3)), (.int .i64 0), (.slice none 0 0), (.int .i64 0)] 256 true 5))]

def m87 : Ev.Note where
  f := 81
  args := [(.ptr (some (347, 0))), (.int .i64 12)]
  n := 7500
  old := c7 ++ c8 ++ c74 ++ c5 ++ c75 ++ c50 ++ c13 ++ c56 ++ c116 ++ [(2929, .row [(.int .i64 1), (.int .i64 1), (.int .i64 0), (.slice (some (3026, 0)) 1 1), (.slice (some (3044, 0)) 1 1), (.int .i64 (-1000000000000)), (.ptr (some (3059, 0))), (.ptr (some (3760, 0))), (.slice (some (3064, 0)) 1 1), (.ptr none)] 246 false 1), (2934, .row [(.int .i64 1), (.int .i64 2)] 3 true 1), (2936, .row [(.int .i64 2), (.int .i64 1), (.int .i64 1), (.slice (some (3036, 0)) 1 1), (.slice (some (3054, 0)) 1 1), (.int .i64 (-3)), (.ptr (some (3066, 0))), (.ptr (some (4221, 0))), (.slice (some (3071, 0)) 1 1), (.ptr none)] 246 false 1)] ++ c128 ++ [(3026, .row [(.int .i64 0)] 3 true 1), (3027, .map [] 2), (3028, .map [] 2), (3029, .row [(.slice (some (6888, 0)) 0 0), (.int .i64 2), (.int .i64 1), (.int .i64 1000), (.int .i64 2), (.int .i64 2), (.map (some 3027)), (.slice (some (7161, 6)) 1 1), (.map (some 3028)), (.int .i64 1)] 226 false 1), (3030, .row [(.int .i64 0), (.int .i64 2), (.int .i64 0), (.ptr (some (3029, 0))), (.slice (some (7155, 0)) 2 2)] 129 false 1), (3034, .row [(.int .i64 0), (.int .i64 1)] 3 true 1), (3036, .row [(.int .i64 1)] 3 true 1), (3037, .map [] 0), (3038, .map [] 0), (3039, .row [(.slice none 0 0), (.int .i64 2), (.int .i64 2), (.int .i64 1000), (.int .i64 0), (.int .i64 0), (.map (some 3037)), (.slice none 0 0), (.map (some 3038)), (.int .i64 0)] 226 false 1), (3040, .row [(.int .i64 1), (.int .i64 3), (.int .i64 0), (.ptr (some (3039, 0))), (.slice none 0 0)] 129 false 1), (3044, .row [(.int .i64 2)] 3 true 1), (3047, .map [] 0), (3048, .map [] 0), (3049, .row [(.slice (some (7499, 0)) 1 1), (.int .i64 2), (.int .i64 2), (.int .i64 1000), (.int .i64 0), (.int .i64 0), (.map (some 3047)), (.slice none 0 0), (.map (some 3048)), (.int .i64 1)] 226 false 1), (3050, .row [(.int .i64 2), (.int .i64 3), (.int .i64 0), (.ptr (some (3049, 0))), (.slice none 0 0)] 129 false 1), (3052, .row [(.ptr (some (3020, 0))), (.ptr (some (3030, 0))), (.ptr (some (3040, 0))), (.ptr (some (3050, 0)))] 126 true 1), (3054, .row [(.int .i64 3)] 3 true 1), (3056, .row [(.int .i64 2), (.int .i64 3)] 3 true 1), (3058, .map [] 0), (3059, .row [(.slice (some (3062, 0)) 1 1), (.iface 419 (.agg [])), (.int .i64 0), (.int .i64 0), (.map (some 3058))] 418 false 1), (3060, .row [(.int .i64 0), (.bool false), (.slice none 0 0), (.bool false), (.bool false)] 422 false 1), (3062, .row [(.ptr (some (3060, 0)))] 420 true 1), (3064, .row [(.int .i64 (-1000000000000))] 3 false 1), (3065, .map [] 0), (3066, .row [(.slice (some (3069, 0)) 1 1), (.iface 419 (.agg [])), (.int .i64 0), (.int .i64 0), (.map (some 3065))] 418 false 1), (3067, .row [(.int .i64 0), (.bool false), (.slice none 0 0), (.bool false), (.bool false)] 422 false 1), (3069, .row [(.ptr (some (3067, 0)))] 420 true 1), (3071, .row [(.int .i64 (-3))] 3 false 1)] ++ c102 ++ c62 ++ c103 ++ c104 ++ c80 ++ c81 ++ c135 ++ c83 ++ c139 ++ c85 ++ c86 ++ c87 ++ c73 ++ c96 ++ c97 ++ c130 ++ c140 ++ c106 ++ c118 ++ c119 ++ c120 ++ c123 ++ c124 ++ c131 ++ c136 ++ c137 ++ c141 ++ c142
  v := (.tuple [(.bool true), (.int .i64 0)])
  m := 7605
  fin := [(2929, some (.row [(.int .i64 1), (.int .i64 1), (.int .i64 0), (.slice (some (3026, 0)) 1 1), (.slice (some (3044, 0)) 1 1), (.int .i64 (-3)), (.ptr (some (3059, 0))), (.ptr (some (3760, 0))), (.slice (some (3064, 0)) 1 1), (.ptr none)] 246 false 1))] ++ [(3019, some (.row [(.slice (some (6880, 0)) 0 0), (.int .i64 2), (.int .i64 1), (.int .i64 1000), (.int .i64 2), (.int .i64 2), (.map (some 3017)), (.slice (some (7035, 12)) 2 2), (.map (some 3018)), (.int .i64 2)] 226 false 1))] ++ [(3039, some (.row [(.slice (some (7604, 0)) 1 1), (.int .i64 2), (.int .i64 2), (.int .i64 1000), (.int .i64 0), (.int .i64 0), (.map (some 3037)), (.slice none 0 0), (.map (some 3038)), (.int .i64 1)] 226 false 1)), (3064, some (.row [(.int .i64 (-3))] 3 false 1))] ++ [(3758, some (.map [⟨(.str []), (.slice (some (7596, 0)) 1 1), 0⟩] 1)), (3760, some (.row [(.slice (some (3737, 0)) 3 3), (.int .i64 1), (.int .i64 5), (.str [103]), (.slice (some (3741, 0)) 1 1), (.slice none 0 0), (.int .i64 0), (.str []), (.slice none 0 0), (.slice none 0 0), (.slice none 0 0), (.int .i64 1), (.int .i64 10), (.int .i64 0), (.int .i64 0), (.int .i64 0), (.slice (some (3743, 0)) 1 1), (.slice (some (3745, 0)) 1 1), (.int .i64 0), (.int .i64 0), (.slice none 0 0), (.bool false), (.int .i64 0), (.int .i64 0), (.slice none 0 0), (.int .i64 0), (.int .i64 0), (.slice (some (3750, 0)) 1 1), (.bool true), (.slice (some (3752, 0)) 1 1), (.bool true), (.int .i64 4), (.int .i64 0), (.int .i64 2), (.ptr (some (7566, 0))), (.iface 553 (.ptr (some (3759, 0)))), (.int .i64 (-3)), (.int .i64 1), (.int .i64 0)] 341 false 1))] ++ c143 ++ [(7565, some (.row [(.int .i64 (-3)), (.bool false), (.bool false)] 355 false 1)), (7566, some (.row [(.slice (some (7565, 0)) 1 1), (.int .i64 (-3))] 352 false 1))] ++ [(7596, some (.row [(.int .i64 1), (.slice (some (7310, 0)) 1 1), (.int .i64 1)] 193 true 3)), (7604, some (.row [(.int .i64 2), (.int .i64 (-3)), (.int .i64 0), (.slice none 0 0), (.int .i64 0)] 256 true 5))]

def m88 : Ev.Note where
  f := 81
  args := [(.ptr (some (347, 0))), (.int .i64 13)]
  n := 7605
  old := c7 ++ c8 ++ c74 ++ c5 ++ c75 ++ c50 ++ c13 ++ c56 ++ c116 ++ [(2929, .row [(.int .i64 1), (.int .i64 1), (.int .i64 0), (.slice (some (3026, 0)) 1 1), (.slice (some (3044, 0)) 1 1), (.int .i64 (-3)), (.ptr (some (3059, 0))), (.ptr (some (3760, 0))), (.slice (some (3064, 0)) 1 1), (.ptr none)] 246 false 1), (2934, .row [(.int .i64 1), (.int .i64 2)] 3 true 1), (2936, .row [(.int .i64 2), (.int .i64 1), (.int .i64 1), (.slice (some (3036, 0)) 1 1), (.slice (some (3054, 0)) 1 1), (.int .i64 (-3)), (.ptr (some (3066, 0))), (.ptr (some (4221, 0))), (.slice (some (3071, 0)) 1 1), (.ptr none)] 246 false 1)] ++ c144 ++ [(3026, .row [(.int .i64 0)] 3 true 1), (3027, .map [] 2), (3028, .map [] 2), (3029, .row [(.slice (some (6888, 0)) 0 0), (.int .i64 2), (.int .i64 1), (.int .i64 1000), (.int .i64 2), (.int .i64 2), (.map (some 3027)), (.slice (some (7161, 6)) 1 1), (.map (some 3028)), (.int .i64 1)] 226 false 1), (3030, .row [(.int .i64 0), (.int .i64 2), (.int .i64 0), (.ptr (some (3029, 0))), (.slice (some (7155, 0)) 2 2)] 129 false 1), (3034, .row [(.int .i64 0), (.int .i64 1)] 3 true 1), (3036, .row [(.int .i64 1)] 3 true 1), (3037, .map [] 0), (3038, .map [] 0), (3039, .row [(.slice (some (7604, 0)) 1 1), (.int .i64 2), (.int .i64 2), (.int .i64 1000), (.int .i64 0), (.int .i64 0), (.map (some 3037)), (.slice none 0 0), (.map (some 3038)), (.int .i64 1)] 226 false 1), (3040, .row [(.int .i64 1), (.int .i64 3), (.int .i64 0), (.ptr (some (3039, 0))), (.slice none 0 0)] 129 false 1), (3044, .row [(.int .i64 2)] 3 true 1), (3047, .map [] 0), (3048, .map [] 0), (3049, .row [(.slice (some (7499, 0)) 1 1), (.int .i64 2), (.int .i64 2), (.int .i64 1000), (.int .i64 0), (.int .i64 0), (.map (some 3047)), (.slice none 0 0), (.map (some 3048)), (.int .i64 1)] 226 false 1), (3050, .row [(.int .i64 2), (.int .i64 3), (.int .i64 0), (.ptr (some (3049, 0))), (.slice none 0 0)] 129 false 1), (3052, .row [(.ptr (some (3020, 0))), (.ptr (some (3030, 0))), (.ptr (some (3040, 0))), (.ptr (some (3050, 0)))] 126 true 1), (3054, .row [(.int .i64 3)] 3 true 1), (3056, .row [(.int .i64 2), (.int .i64 3)] 3 true 1), (3058, .map [] 0), (3059, .row [(.slice (some (3062, 0)) 1 1), (.iface 419 (.agg [])), (.int .i64 0), (.int .i64 0), (.map (some 3058))] 418 false 1), (3060, .row [(.int .i64 0), (.bool false), (.slice none 0 0), (.bool false), (.bool false)] 422 false 1), (3062, .row [(.ptr (some (3060, 0)))] 420 true 1), (3064, .row [(.int .i64 (-3))] 3 false 1), (3065, .map [] 0), (3066, .row [(.slice (some (3069, 0)) 1 1), (.iface 419 (.agg [])), (.int .i64 0), (.int .i64 0), (.map (some 3065))] 418 false 1), (3067, .row [(.int .i64 0), (.bool false), (.slice none 0 0), (.bool false), (.bool false)] 422 false 1), (3069, .row [(.ptr (some (3067, 0)))] 420 true 1), (3071, .row [(.int .i64 (-3))] 3 false 1)] ++ c102 ++ c62 ++ c103 ++ c104 ++ c80 ++ c81 ++ c145 ++ c83 ++ c139 ++ c85 ++ c86 ++ c87 ++ c73 ++ c96 ++ c97 ++ c146 ++ c140 ++ c106 ++ c118 ++ c119 ++ c120 ++ c123 ++ c124 ++ c131 ++ c136 ++ c141 ++ c142 ++ c147 ++ c148
  v := (.tuple [(.bool true), (.int .i64 0)])
  m := 7691
  fin := [(2936, some (.row [(.int .i64 2), (.int .i64 1), (.int .i64 1), (.slice (some (3036, 0)) 1 1), (.slice (some (3054, 0)) 1 1), (.int .i64 1000000000001), (.ptr (some (3066, 0))), (.ptr (some (4221, 0))), (.slice (some (3071, 0)) 1 1), (.ptr none)] 246 false 1))] ++ [(3029, some (.row [(.slice (some (6888, 0)) 0 0), (.int .i64 2), (.int .i64 2), (.int .i64 1000), (.int .i64 2), (.int .i64 2), (.map (some 3027)), (.rest 7161), (.map (some 3028)), (.int .i64 0)] 226 false 1)), (3049, some (.row [(.slice (some (7690, 0)) 2 2), (.int .i64 2), (.int .i64 2), (.int .i64 1000), (.int .i64 0), (.int .i64 0), (.map (some 3047)), (.slice none 0 0), (.map (some 3048)), (.int .i64 2)] 226 false 1)), (3071, some (.row [(.int .i64 1000000000001)] 3 false 1))] ++ c149 ++ c150 ++ [(7499, none)] ++ c151 ++ [(7690, some (.row [(.int .i64 2), (.int .i64 (-3)), (.int .i64 0), (.slice none 0 0), (.int .i64 0), (.int .i64 2), (.int .i64 1000000000001), (.int .i64 0), (.slice none 0 0), (.int .i64 0)] 256 true 5))]

def m89 : Ev.Note where
  f := 81
  args := [(.ptr (some (347, 0))), (.int .i64 14)]
  n := 7691
  old := c7 ++ c8 ++ c74 ++ c5 ++ c75 ++ c50 ++ c13 ++ c56 ++ c116 ++ c152 ++ c144 ++ [(3026, .row [(.int .i64 0)] 3 true 1), (3027, .map [] 2), (3028, .map [] 2), (3029, .row [(.slice (some (6888, 0)) 0 0), (.int .i64 2), (.int .i64 2), (.int .i64 1000), (.int .i64 2), (.int .i64 2), (.map (some 3027)), (.rest 7161), (.map (some 3028)), (.int .i64 0)] 226 false 1), (3030, .row [(.int .i64 0), (.int .i64 2), (.int .i64 0), (.ptr (some (3029, 0))), (.slice (some (7155, 0)) 2 2)] 129 false 1), (3034, .row [(.int .i64 0), (.int .i64 1)] 3 true 1), (3036, .row [(.int .i64 1)] 3 true 1), (3037, .map [] 0), (3038, .map [] 0), (3039, .row [(.slice (some (7604, 0)) 1 1), (.int .i64 2), (.int .i64 2), (.int .i64 1000), (.int .i64 0), (.int .i64 0), (.map (some 3037)), (.slice none 0 0), (.map (some 3038)), (.int .i64 1)] 226 false 1), (3040, .row [(.int .i64 1), (.int .i64 3), (.int .i64 0), (.ptr (some (3039, 0))), (.slice none 0 0)] 129 false 1), (3044, .row [(.int .i64 2)] 3 true 1), (3047, .map [] 0), (3048, .map [] 0), (3049, .row [(.slice (some (7690, 0)) 2 2), (.int .i64 2), (.int .i64 2), (.int .i64 1000), (.int .i64 0), (.int .i64 0), (.map (some 3047)), (.slice none 0 0), (.map (some 3048)), (.int .i64 2)] 226 false 1), (3050, .row [(.int .i64 2), (.int .i64 3), (.int .i64 0), (.ptr (some (3049, 0))), (.slice none 0 0)] 129 false 1), (3052, .row [(.ptr (some (3020, 0))), (.ptr (some (3030, 0))), (.ptr (some (3040, 0))), (.ptr (some (3050, 0)))] 126 true 1), (3054, .row [(.int .i64 3)] 3 true 1), (3056, .row [(.int .i64 2), (.int .i64 3)] 3 true 1), (3058, .map [] 0), (3059, .row [(.slice (some (3062, 0)) 1 1), (.iface 419 (.agg [])), (.int .i64 0), (.int .i64 0), (.map (some 3058))] 418 false 1), (3060, .row [(.int .i64 0), (.bool false), (.slice none 0 0), (.bool false), (.bool false)] 422 false 1), (3062, .row [(.ptr (some (3060, 0)))] 420 true 1), (3064, .row [(.int .i64 (-3))] 3 false 1), (3065, .map [] 0), (3066, .row [(.slice (some (3069, 0)) 1 1), (.iface 419 (.agg [])), (.int .i64 0), (.int .i64 0), (.map (some 3065))] 418 false 1), (3067, .row [(.int .i64 0), (.bool false), (.slice none 0 0), (.bool false), (.bool false)] 422 false 1), (3069, .row [(.ptr (some (3067, 0)))] 420 true 1), (3071, .row [(.int .i64 1000000000001)] 3 false 1)] ++ c102 ++ c62 ++ c103 ++ c104 ++ c80 ++ c81 ++ c145 ++ c83 ++ c153 ++ c85 ++ c86 ++ c87 ++ c73 ++ c96 ++ c97 ++ c146 ++ c140 ++ c106 ++ c118 ++ c119 ++ c120 ++ c123 ++ c154 ++ c131 ++ c136 ++ c147 ++ c148 ++ c155 ++ [(7690, .row [(.int .i64 2), (.int .i64 (-3)), (.int .i64 0), (.slice none 0 0), (.int .i64 0), (.int .i64 2), (.int .i64 1000000000001), (.int .i64 0), (.slice none 0 0), (.int .i64 0)] 256 true 5)]
  v := (.tuple [(.bool true), (.int .i64 0)])
  m := 7727
  fin := [(3048, some (.map [⟨(.int .i64 0), (.ptr (some (7726, 0))), 0⟩] 1)), (3049, some (.row [(.slice (some (7690, 0)) 0 0), (.int .i64 2), (.int .i64 1), (.int .i64 1000), (.int .i64 1), (.int .i64 0), (.map (some 3047)), (.slice none 0 0), (.map (some 3048)), (.int .i64 2)] 226 false 1))] ++ [(7726, some (.row [(.clip (7690, 0) 2), (.int .i64 2)] 254 false 1))]

def m90 : Ev.Note where
  f := 559
  args := [(.agg [(.slice (some (3737, 0)) 3 3), (.int .i64 1), (.int .i64 5), (.str [103]), (.slice (some (3741, 0)) 1 1), (.slice none 0 0), (.int .i64 0), (.str []), (.slice none 0 0), (.slice none 0 0), (.slice none 0 0), (.int .i64 1), (.int .i64 10), (.int .i64 0), (.int .i64 0), (.int .i64 0), (.slice (some (3743, 0)) 1 1), (.slice (some (3745, 0)) 1 1), (.int .i64 0), (.int .i64 0), (.slice none 0 0), (.bool false), (.int .i64 0), (.int .i64 0), (.slice none 0 0), (.int .i64 0), (.int .i64 0), (.slice (some (3750, 0)) 1 1), (.bool true), (.slice (some (3752, 0)) 1 1), (.bool true), (.int .i64 4), (.int .i64 0), (.int .i64 2)]), (.int .i64 0), (.slice (some (7787, 0)) 1 1)]
  n := 7801
  old := c80 ++ c81 ++ c126 ++ c156
  v := (.int .i64 1)
  m := 7874
  fin := []

def m91 : Ev.Note where
  f := 503
  args := [(.ptr (some (3760, 0))), (.int .i64 0), (.agg [(.int .i64 2), (.slice (some (7787, 0)) 1 1), (.int .i64 1)])]
  n := 7792
  old := c80 ++ c81 ++ c145 ++ c136 ++ c147 ++ [(7596, .row [(.int .i64 1), (.slice (some (7310, 0)) 1 1), (.int .i64 1)] 193 true 3)] ++ c156
  v := (.tuple [(.slice none 0 0), (.int .i64 0)])
  m := 8037
  fin := c157 ++ c158 ++ c159

def m92 : Ev.Note where
  f := 81
  args := [(.ptr (some (347, 0))), (.int .i64 15)]
  n := 7727
  old := c7 ++ c8 ++ c74 ++ c5 ++ c75 ++ c50 ++ c13 ++ c56 ++ c116 ++ c152 ++ c144 ++ c160 ++ c102 ++ c62 ++ c103 ++ c104 ++ c80 ++ c81 ++ c145 ++ c83 ++ c153 ++ c85 ++ c86 ++ c87 ++ c73 ++ c96 ++ c97 ++ c146 ++ c140 ++ c106 ++ c118 ++ c119 ++ c120 ++ c123 ++ c154 ++ c131 ++ c136 ++ c147 ++ c148 ++ c155 ++ c161
  v := (.tuple [(.bool true), (.int .i64 0)])
  m := 8037
  fin := [(3019, some (.row [(.slice (some (6880, 0)) 0 0), (.int .i64 2), (.int .i64 1), (.int .i64 1000), (.int .i64 2), (.int .i64 2), (.map (some 3017)), (.slice (some (7035, 18)) 1 1), (.map (some 3018)), (.int .i64 1)] 226 false 1))] ++ c157 ++ [(6932, some (.row [(.clip (6880, 0) 2), (.int .i64 1)] 254 false 1))] ++ c158 ++ c159

def m93 : Ev.Note where
  f := 81
  args := [(.ptr (some (347, 0))), (.int .i64 16)]
  n := 8037
  old := c7 ++ c8 ++ c74 ++ c5 ++ c75 ++ c50 ++ c13 ++ c56 ++ c116 ++ c152 ++ c162 ++ c160 ++ c102 ++ c62 ++ c103 ++ c104 ++ c80 ++ c81 ++ c163 ++ c83 ++ c153 ++ c85 ++ c86 ++ c87 ++ c73 ++ c96 ++ c97 ++ c146 ++ c140 ++ c106 ++ c118 ++ c119 ++ c164 ++ c123 ++ c154 ++ c131 ++ c136 ++ c147 ++ c165 ++ c155 ++ c161 ++ c166 ++ c167
  v := (.tuple [(.bool true), (.int .i64 0)])
  m := 8076
  fin := [(3038, some (.map [⟨(.int .i64 0), (.ptr (some (8075, 0))), 0⟩] 1)), (3039, some (.row [(.slice (some (7604, 0)) 0 0), (.int .i64 2), (.int .i64 1), (.int .i64 1000), (.int .i64 1), (.int .i64 0), (.map (some 3037)), (.slice none 0 0), (.map (some 3038)), (.int .i64 1)] 226 false 1))] ++ [(8075, some (.row [(.clip (7604, 0) 1), (.int .i64 1)] 254 false 1))]

def m94 : Ev.Note where
  f := 81
  args := [(.ptr (some (347, 0))), (.int .i64 17)]
  n := 8076
  old := c7 ++ c8 ++ c74 ++ c5 ++ c75 ++ c50 ++ c13 ++ c56 ++ c116 ++ c152 ++ c162 ++ [(3026, .row [(.int .i64 0)] 3 true 1), (3027, .map [] 2), (3028, .map [] 2), (3029, .row [(.slice (some (6888, 0)) 0 0), (.int .i64 2), (.int .i64 2), (.int .i64 1000), (.int .i64 2), (.int .i64 2), (.map (some 3027)), (.rest 7161), (.map (some 3028)), (.int .i64 0)] 226 false 1), (3030, .row [(.int .i64 0), (.int .i64 2), (.int .i64 0), (.ptr (some (3029, 0))), (.slice (some (7155, 0)) 2 2)] 129 false 1), (3034, .row [(.int .i64 0), (.int .i64 1)] 3 true 1), (3036, .row [(.int .i64 1)] 3 true 1), (3037, .map [] 0), (3038, .map [⟨(.int .i64 0), (.ptr (some (8075, 0))), 0⟩] 1), (3039, .row [(.slice (some (7604, 0)) 0 0), (.int .i64 2), (.int .i64 1), (.int .i64 1000), (.int .i64 1), (.int .i64 0), (.map (some 3037)), (.slice none 0 0), (.map (some 3038)), (.int .i64 1)] 226 false 1), (3040, .row [(.int .i64 1), (.int .i64 3), (.int .i64 0), (.ptr (some (3039, 0))), (.slice none 0 0)] 129 false 1), (3044, .row [(.int .i64 2)] 3 true 1), (3047, .map [] 0), (3048, .map [⟨(.int .i64 0), (.ptr (some (7726, 0))), 0⟩] 1), (3049, .row [(.slice (some (7690, 0)) 0 0), (.int .i64 2), (.int .i64 1), (.int .i64 1000), (.int .i64 1), (.int .i64 0), (.map (some 3047)), (.slice none 0 0), (.map (some 3048)), (.int .i64 2)] 226 false 1), (3050, .row [(.int .i64 2), (.int .i64 3), (.int .i64 0), (.ptr (some (3049, 0))), (.slice none 0 0)] 129 false 1), (3052, .row [(.ptr (some (3020, 0))), (.ptr (some (3030, 0))), (.ptr (some (3040, 0))), (.ptr (some (3050, 0)))] 126 true 1), (3054, .row [(.int .i64 3)] 3 true 1), (3056, .row [(.int .i64 2), (.int .i64 3)] 3 true 1), (3058, .map [] 0), (3059, .row [(.slice (some (3062, 0)) 1 1), (.iface 419 (.agg [])), (.int .i64 0), (.int .i64 0), (.map (some 3058))] 418 false 1), (3060, .row [(.int .i64 0), (.bool false), (.slice none 0 0), (.bool false), (.bool false)] 422 false 1), (3062, .row [(.ptr (some (3060, 0)))] 420 true 1), (3064, .row [(.int .i64 (-3))] 3 false 1), (3065, .map [] 0), (3066, .row [(.slice (some (3069, 0)) 1 1), (.iface 419 (.agg [])), (.int .i64 0), (.int .i64 0), (.map (some 3065))] 418 false 1), (3067, .row [(.int .i64 0), (.bool false), (.slice none 0 0), (.bool false), (.bool false)] 422 false 1), (3069, .row [(.ptr (some (3067, 0)))] 420 true 1), (3071, .row [(.int .i64 1000000000001)] 3 false 1)] ++ c102 ++ c62 ++ c103 ++ c104 ++ c80 ++ c81 ++ c163 ++ c83 ++ c153 ++ c85 ++ c86 ++ c87 ++ c73 ++ c96 ++ c97 ++ c146 ++ c140 ++ c106 ++ c118 ++ c119 ++ c164 ++ c123 ++ c154 ++ c131 ++ c136 ++ c147 ++ c165 ++ c155 ++ c161 ++ c166 ++ c167 ++ c168
  v := (.tuple [(.bool true), (.int .i64 0)])
  m := 8125
  fin := [(3047, some (.map [] 1)), (3048, some (.map [] 1)), (3049, some (.row [(.slice (some (7690, 0)) 0 0), (.int .i64 2), (.int .i64 1), (.int .i64 1000), (.int .i64 1), (.int .i64 1), (.map (some 3047)), (.slice (some (8124, 0)) 2 2), (.map (some 3048)), (.int .i64 2)] 226 false 1)), (3050, some (.row [(.int .i64 2), (.int .i64 3), (.int .i64 0), (.ptr (some (3049, 0))), (.slice (some (8118, 0)) 1 1)] 129 false 1))] ++ c169

def m95 : Ev.Note where
  f := 867
  args := [(.ptr (some (8373, 0)))]
  n := 8410
  old := c170 ++ [(8369, .row [(.bool false), (.int .i64 2)] 981 false 1), (8371, .row [(.iface 979 (.ptr (some (8369, 0))))] 990 true 1), (8372, .map [⟨(.str [55]), (.agg [(.slice (some (8395, 0)) 1 1), (.int .i64 1)]), 0⟩, ⟨(.str [56]), (.agg [(.slice (some (8406, 0)) 1 1), (.int .i64 1)]), 1⟩] 2), (8373, .row [(.slice (some (3743, 0)) 1 1), (.int .i64 1), (.map (some 8372)), (.slice (some (8371, 0)) 1 1)] 970 false 1), (8395, .row [(.int .i64 1), (.int .i64 7), (.str [])] 51 true 3)] ++ [(8406, .row [(.int .i64 1), (.int .i64 8), (.str [])] 51 true 3)]
  v := (.slice (some (8420, 0)) 2 2)
  m := 8431
  fin := [(8413, some (.row [(.int .i64 1), (.int .i64 7), (.str [])] 51 true 3)), (8418, some (.row [(.int .i64 1), (.int .i64 8), (.str [])] 51 true 3)), (8420, some (.row [(.slice (some (8413, 0)) 1 1), (.int .i64 1), (.slice (some (8418, 0)) 1 1), (.int .i64 1)] 67 true 2))]

def m96 : Ev.Note where
  f := 842
  args := [(.ptr (some (8365, 0)))]
  n := 8467
  old := c170 ++ [(8361, .row [(.bool false), (.int .i64 2)] 981 false 1), (8363, .row [(.iface 979 (.ptr (some (8361, 0))))] 990 true 1), (8364, .map [⟨(.str [55]), (.agg [(.slice (some (8452, 0)) 1 1), (.int .i64 1)]), 0⟩, ⟨(.str [56]), (.agg [(.slice (some (8463, 0)) 1 1), (.int .i64 1)]), 1⟩] 2), (8365, .row [(.slice (some (3743, 0)) 1 1), (.int .i64 1), (.map (some 8364)), (.slice (some (8363, 0)) 1 1)] 970 false 1)] ++ [(8452, .row [(.int .i64 1), (.int .i64 7), (.str [])] 51 true 3), (8463, .row [(.int .i64 1), (.int .i64 8), (.str [])] 51 true 3)]
  v := (.tuple [(.slice (some (8473, 0)) 1 1), (.int .i64 0)])
  m := 8474
  fin := [(8473, some (.row [(.int .i64 1), (.int .i64 2), (.str [])] 51 true 3))]

def m97 : Ev.Note where
  f := 788
  args := [(.ptr (some (3759, 0))), (.int .i64 (-3)), (.int .i64 1000000000001), (.func (.func 647) [] [(.ptr (some (8202, 0)))])]
  n := 8203
  old := c80 ++ c81 ++ [(3745, .row [(.str [110])] 9 true 1), (3747, .row [(.int .i64 1)] 3 true 1), (3750, .row [(.slice (some (3545, 0)) 1 1)] 102 true 1), (3752, .row [(.bool true)] 4 true 1), (3758, .map [⟨(.str []), (.slice (some (7970, 0)) 2 2), 0⟩] 1), (3759, .row [(.slice (some (3737, 0)) 3 3), (.int .i64 1), (.int .i64 5), (.str [103]), (.slice (some (3741, 0)) 1 1), (.slice none 0 0), (.int .i64 0), (.str []), (.slice none 0 0), (.slice none 0 0), (.slice none 0 0), (.int .i64 1), (.int .i64 10), (.int .i64 0), (.int .i64 0), (.int .i64 0), (.slice (some (3743, 0)) 1 1), (.slice (some (3745, 0)) 1 1), (.int .i64 0), (.int .i64 0), (.slice none 0 0), (.bool false), (.int .i64 0), (.int .i64 0), (.slice none 0 0), (.int .i64 0), (.int .i64 0), (.slice (some (3750, 0)) 1 1), (.bool true), (.slice (some (3752, 0)) 1 1), (.bool true), (.int .i64 4), (.int .i64 0), (.int .i64 2), (.map (some 3758))] 556 false 1)] ++ c136 ++ c166 ++ c167 ++ [(8202, .row [(.slice none 0 0)] 190 false 1)]
  v := (.int .i64 0)
  m := 8483
  fin := [(3758, some (.map [] 1))] ++ [(8202, some (.row [(.slice (some (8480, 0)) 1 1)] 190 false 1))] ++ [(8477, some (.row [(.int .i64 1), (.int .i64 0), (.str []), (.int .i64 1), (.int .i64 10), (.str []), (.int .i64 1), (.int .i64 2), (.str [])] 51 true 3)), (8480, some (.row [(.int .i64 9), (.slice (some (8477, 0)) 3 3), (.int .i64 1)] 193 true 3))]

def m98 : Ev.Note where
  f := 325
  args := [(.ptr (some (347, 0))), (.ptr (some (2929, 0))), (.int .i64 0), (.agg [(.int .i64 2), (.int .i64 1000000000001), (.int .i64 0), (.slice none 0 0), (.int .i64 0)])]
  n := 8171
  old := c7 ++ c8 ++ c74 ++ c5 ++ c75 ++ c50 ++ c13 ++ c56 ++ c116 ++ c152 ++ c171 ++ c172 ++ c102 ++ c62 ++ c103 ++ c104 ++ c80 ++ c81 ++ c163 ++ c83 ++ c153 ++ c85 ++ c86 ++ c87 ++ c73 ++ c96 ++ c97 ++ c146 ++ c140 ++ c106 ++ c118 ++ c119 ++ c173 ++ c123 ++ c154 ++ c131 ++ c136 ++ c147 ++ c165 ++ c155 ++ c161 ++ c166 ++ c167 ++ c168 ++ c174
  v := (.int .i64 0)
  m := 8583
  fin := c175 ++ c176 ++ c177 ++ c178 ++ c179

def m99 : Ev.Note where
  f := 81
  args := [(.ptr (some (347, 0))), (.int .i64 18)]
  n := 8125
  old := c7 ++ c8 ++ c74 ++ c5 ++ c75 ++ c50 ++ c13 ++ c56 ++ c116 ++ c152 ++ c162 ++ c172 ++ c102 ++ c62 ++ c103 ++ c104 ++ c80 ++ c81 ++ c163 ++ c83 ++ c153 ++ c85 ++ c86 ++ c87 ++ c73 ++ c96 ++ c97 ++ c146 ++ c140 ++ c106 ++ c118 ++ c119 ++ c164 ++ c123 ++ c154 ++ c131 ++ c136 ++ c147 ++ c165 ++ c155 ++ c161 ++ c166 ++ c167 ++ c168 ++ c174
  v := (.tuple [(.bool true), (.int .i64 0)])
  m := 8583
  fin := c175 ++ [(3019, some (.row [(.slice (some (6880, 0)) 0 0), (.int .i64 2), (.int .i64 2), (.int .i64 1000), (.int .i64 2), (.int .i64 2), (.map (some 3017)), (.rest 7035), (.map (some 3018)), (.int .i64 0)] 226 false 1))] ++ c176 ++ c177 ++ c180 ++ c178 ++ c179

def m100 : Ev.Note where
  f := 81
  args := [(.ptr (some (347, 0))), (.int .i64 19)]
  n := 8583
  old := c7 ++ c8 ++ c74 ++ c5 ++ c75 ++ c50 ++ c13 ++ c56 ++ c116 ++ c181 ++ c171 ++ [(3026, .row [(.int .i64 0)] 3 true 1), (3027, .map [] 2), (3028, .map [] 2), (3029, .row [(.slice (some (6888, 0)) 0 0), (.int .i64 2), (.int .i64 2), (.int .i64 1000), (.int .i64 2), (.int .i64 2), (.map (some 3027)), (.rest 7161), (.map (some 3028)), (.int .i64 0)] 226 false 1), (3030, .row [(.int .i64 0), (.int .i64 2), (.int .i64 0), (.ptr (some (3029, 0))), (.slice (some (7155, 0)) 2 2)] 129 false 1), (3034, .row [(.int .i64 0), (.int .i64 1)] 3 true 1), (3036, .row [(.int .i64 1)] 3 true 1), (3037, .map [] 0), (3038, .map [⟨(.int .i64 0), (.ptr (some (8075, 0))), 0⟩] 1), (3039, .row [(.slice (some (8582, 0)) 2 2), (.int .i64 2), (.int .i64 1), (.int .i64 1000), (.int .i64 1), (.int .i64 0), (.map (some 3037)), (.slice none 0 0), (.map (some 3038)), (.int .i64 3)] 226 false 1), (3040, .row [(.int .i64 1), (.int .i64 3), (.int .i64 0), (.ptr (some (3039, 0))), (.slice none 0 0)] 129 false 1), (3044, .row [(.int .i64 2)] 3 true 1), (3047, .map [] 1), (3048, .map [] 1), (3049, .row [(.slice (some (7690, 0)) 0 0), (.int .i64 2), (.int .i64 1), (.int .i64 1000), (.int .i64 1), (.int .i64 1), (.map (some 3047)), (.slice (some (8124, 0)) 2 2), (.map (some 3048)), (.int .i64 2)] 226 false 1), (3050, .row [(.int .i64 2), (.int .i64 3), (.int .i64 0), (.ptr (some (3049, 0))), (.slice (some (8118, 0)) 1 1)] 129 false 1), (3052, .row [(.ptr (some (3020, 0))), (.ptr (some (3030, 0))), (.ptr (some (3040, 0))), (.ptr (some (3050, 0)))] 126 true 1), (3054, .row [(.int .i64 3)] 3 true 1), (3056, .row [(.int .i64 2), (.int .i64 3)] 3 true 1), (3058, .map [] 0), (3059, .row [(.slice (some (3062, 0)) 1 1), (.iface 419 (.agg [])), (.int .i64 0), (.int .i64 0), (.map (some 3058))] 418 false 1), (3060, .row [(.int .i64 0), (.bool false), (.slice none 0 0), (.bool false), (.bool false)] 422 false 1), (3062, .row [(.ptr (some (3060, 0)))] 420 true 1), (3064, .row [(.int .i64 1000000000001)] 3 false 1), (3065, .map [] 0), (3066, .row [(.slice (some (3069, 0)) 1 1), (.iface 419 (.agg [])), (.int .i64 0), (.int .i64 0), (.map (some 3065))] 418 false 1), (3067, .row [(.int .i64 0), (.bool false), (.slice none 0 0), (.bool false), (.bool false)] 422 false 1), (3069, .row [(.ptr (some (3067, 0)))] 420 true 1), (3071, .row [(.int .i64 1000000000001)] 3 false 1)] ++ c102 ++ c62 ++ c103 ++ c104 ++ c80 ++ c81 ++ c182 ++ c83 ++ c153 ++ c85 ++ c86 ++ c87 ++ c73 ++ c96 ++ c97 ++ c146 ++ c140 ++ c106 ++ c118 ++ c119 ++ c173 ++ c123 ++ c154 ++ c131 ++ c165 ++ c155 ++ c161 ++ c168 ++ c174 ++ c183 ++ c184
  v := (.tuple [(.bool true), (.int .i64 0)])
  m := 8626
  fin := [(3037, some (.map [] 1)), (3038, some (.map [] 1)), (3039, some (.row [(.slice (some (8582, 0)) 2 2), (.int .i64 2), (.int .i64 1), (.int .i64 1000), (.int .i64 1), (.int .i64 1), (.map (some 3037)), (.slice (some (8625, 0)) 1 1), (.map (some 3038)), (.int .i64 3)] 226 false 1)), (3040, some (.row [(.int .i64 1), (.int .i64 3), (.int .i64 0), (.ptr (some (3039, 0))), (.slice (some (8622, 0)) 1 1)] 129 false 1))] ++ [(8622, some (.row [(.int .i64 0)] 3 true 1)), (8625, some (.row [(.int .i64 2), (.int .i64 (-3)), (.int .i64 0), (.slice none 0 0), (.int .i64 0), (.ptr (some (8075, 0)))] 258 true 6))]

def m101 : Ev.Note where
  f := 81
  args := [(.ptr (some (347, 0))), (.int .i64 20)]
  n := 8626
  old := c7 ++ c8 ++ c74 ++ c5 ++ c75 ++ c50 ++ c13 ++ c56 ++ c116 ++ c181 ++ c171 ++ [(3026, .row [(.int .i64 0)] 3 true 1), (3027, .map [] 2), (3028, .map [] 2), (3029, .row [(.slice (some (6888, 0)) 0 0), (.int .i64 2), (.int .i64 2), (.int .i64 1000), (.int .i64 2), (.int .i64 2), (.map (some 3027)), (.rest 7161), (.map (some 3028)), (.int .i64 0)] 226 false 1), (3030, .row [(.int .i64 0), (.int .i64 2), (.int .i64 0), (.ptr (some (3029, 0))), (.slice (some (7155, 0)) 2 2)] 129 false 1), (3034, .row [(.int .i64 0), (.int .i64 1)] 3 true 1), (3036, .row [(.int .i64 1)] 3 true 1), (3037, .map [] 1), (3038, .map [] 1), (3039, .row [(.slice (some (8582, 0)) 2 2), (.int .i64 2), (.int .i64 1), (.int .i64 1000), (.int .i64 1), (.int .i64 1), (.map (some 3037)), (.slice (some (8625, 0)) 1 1), (.map (some 3038)), (.int .i64 3)] 226 false 1), (3040, .row [(.int .i64 1), (.int .i64 3), (.int .i64 0), (.ptr (some (3039, 0))), (.slice (some (8622, 0)) 1 1)] 129 false 1), (3044, .row [(.int .i64 2)] 3 true 1), (3047, .map [] 1), (3048, .map [] 1), (3049, .row [(.slice (some (7690, 0)) 0 0), (.int .i64 2), (.int .i64 1), (.int .i64 1000), (.int .i64 1), (.int .i64 1), (.map (some 3047)), (.slice (some (8124, 0)) 2 2), (.map (some 3048)), (.int .i64 2)] 226 false 1), (3050, .row [(.int .i64 2), (.int .i64 3), (.int .i64 0), (.ptr (some (3049, 0))), (.slice (some (8118, 0)) 1 1)] 129 false 1), (3052, .row [(.ptr (some (3020, 0))), (.ptr (some (3030, 0))), (.ptr (some (3040, 0))), (.ptr (some (3050, 0)))] 126 true 1), (3054, .row [(.int .i64 3)] 3 true 1), (3056, .row [(.int .i64 2), (.int .i64 3)] 3 true 1), (3058, .map [] 0), (3059, .row [(.slice (some (3062, 0)) 1 1), (.iface 419 (.agg [])), (.int .i64 0), (.int .i64 0), (.map (some 3058))] 418 false 1), (3060, .row [(.int .i64 0), (.bool false), (.slice none 0 0), (.bool false), (.bool false)] 422 false 1), (3062, .row [(.ptr (some (3060, 0)))] 420 true 1), (3064, .row [(.int .i64 1000000000001)] 3 false 1), (3065, .map [] 0), (3066, .row [(.slice (some (3069, 0)) 1 1), (.iface 419 (.agg [])), (.int .i64 0), (.int .i64 0), (.map (some 3065))] 418 false 1), (3067, .row [(.int .i64 0), (.bool false), (.slice none 0 0), (.bool false), (.bool false)] 422 false 1), (3069, .row [(.ptr (some (3067, 0)))] 420 true 1), (3071, .row [(.int .i64 1000000000001)] 3 false 1)] ++ c102 ++ c62 ++ c103 ++ c104 ++ c80 ++ c81 ++ c182 ++ c83 ++ c153 ++ c85 ++ c86 ++ c87 ++ c73 ++ c96 ++ c97 ++ c146 ++ c140 ++ c106 ++ c118 ++ c119 ++ c173 ++ c123 ++ c154 ++ c131 ++ c165 ++ c155 ++ c161 ++ c168 ++ c174 ++ c183 ++ c184 ++ c185
  v := (.tuple [(.bool true), (.int .i64 0)])
  m := 8684
  fin := [(3049, some (.row [(.slice (some (7690, 0)) 0 0), (.int .i64 2), (.int .i64 1), (.int .i64 1000), (.int .i64 1), (.int .i64 1), (.map (some 3047)), (.slice (some (8124, 6)) 1 1), (.map (some 3048)), (.int .i64 1)] 226 false 1))] ++ [(3081, some (.row [(.int .i64 (-1000000000000)), (.int .i64 (-3))] 3 false 1))] ++ [(7726, some (.row [(.clip (7690, 0) 2), (.int .i64 1)] 254 false 1))]

def m102 : Ev.Note where
  f := 81
  args := [(.ptr (some (347, 0))), (.int .i64 21)]
  n := 8684
  old := c7 ++ c8 ++ c74 ++ c5 ++ c75 ++ c50 ++ c13 ++ c56 ++ c116 ++ c181 ++ c171 ++ [(3026, .row [(.int .i64 0)] 3 true 1), (3027, .map [] 2), (3028, .map [] 2), (3029, .row [(.slice (some (6888, 0)) 0 0), (.int .i64 2), (.int .i64 2), (.int .i64 1000), (.int .i64 2), (.int .i64 2), (.map (some 3027)), (.rest 7161), (.map (some 3028)), (.int .i64 0)] 226 false 1), (3030, .row [(.int .i64 0), (.int .i64 2), (.int .i64 0), (.ptr (some (3029, 0))), (.slice (some (7155, 0)) 2 2)] 129 false 1), (3034, .row [(.int .i64 0), (.int .i64 1)] 3 true 1), (3036, .row [(.int .i64 1)] 3 true 1), (3037, .map [] 1), (3038, .map [] 1), (3039, .row [(.slice (some (8582, 0)) 2 2), (.int .i64 2), (.int .i64 1), (.int .i64 1000), (.int .i64 1), (.int .i64 1), (.map (some 3037)), (.slice (some (8625, 0)) 1 1), (.map (some 3038)), (.int .i64 3)] 226 false 1), (3040, .row [(.int .i64 1), (.int .i64 3), (.int .i64 0), (.ptr (some (3039, 0))), (.slice (some (8622, 0)) 1 1)] 129 false 1), (3044, .row [(.int .i64 2)] 3 true 1), (3047, .map [] 1), (3048, .map [] 1), (3049, .row [(.slice (some (7690, 0)) 0 0), (.int .i64 2), (.int .i64 1), (.int .i64 1000), (.int .i64 1), (.int .i64 1), (.map (some 3047)), (.slice (some (8124, 6)) 1 1), (.map (some 3048)), (.int .i64 1)] 226 false 1), (3050, .row [(.int .i64 2), (.int .i64 3), (.int .i64 0), (.ptr (some (3049, 0))), (.slice (some (8118, 0)) 1 1)] 129 false 1), (3052, .row [(.ptr (some (3020, 0))), (.ptr (some (3030, 0))), (.ptr (some (3040, 0))), (.ptr (some (3050, 0)))] 126 true 1), (3054, .row [(.int .i64 3)] 3 true 1), (3056, .row [(.int .i64 2), (.int .i64 3)] 3 true 1), (3058, .map [] 0), (3059, .row [(.slice (some (3062, 0)) 1 1), (.iface 419 (.agg [])), (.int .i64 0), (.int .i64 0), (.map (some 3058))] 418 false 1), (3060, .row [(.int .i64 0), (.bool false), (.slice none 0 0), (.bool false), (.bool false)] 422 false 1), (3062, .row [(.ptr (some (3060, 0)))] 420 true 1), (3064, .row [(.int .i64 1000000000001)] 3 false 1), (3065, .map [] 0), (3066, .row [(.slice (some (3069, 0)) 1 1), (.iface 419 (.agg [])), (.int .i64 0), (.int .i64 0), (.map (some 3065))] 418 false 1), (3067, .row [(.int .i64 0), (.bool false), (.slice none 0 0), (.bool false), (.bool false)] 422 false 1), (3069, .row [(.ptr (some (3067, 0)))] 420 true 1), (3071, .row [(.int .i64 1000000000001)] 3 false 1)] ++ [(3072, .map [] 0), (3073, .row [(.slice (some (3079, 0)) 2 2), (.iface 419 (.agg [])), (.int .i64 0), (.int .i64 0), (.map (some 3072))] 418 false 1), (3074, .row [(.int .i64 0), (.bool false), (.slice none 0 0), (.bool false), (.bool false)] 422 false 1), (3077, .row [(.int .i64 0), (.bool false), (.slice none 0 0), (.bool false), (.bool false)] 422 false 1), (3079, .row [(.ptr (some (3074, 0))), (.ptr (some (3077, 0)))] 420 true 1), (3081, .row [(.int .i64 (-1000000000000)), (.int .i64 (-3))] 3 false 1), (3082, .map [⟨(.int .i64 0), (.ptr (some (3257, 0))), 0⟩] 1), (3083, .map [⟨(.int .i64 0), (.slice none 0 0), 0⟩] 1), (3084, .map [⟨(.int .i64 0), (.slice (some (5965, 0)) 2 2), 0⟩] 1)] ++ c62 ++ c103 ++ c104 ++ c80 ++ c81 ++ c182 ++ c83 ++ c153 ++ c85 ++ c86 ++ c87 ++ c73 ++ c96 ++ c97 ++ c146 ++ c140 ++ c106 ++ c118 ++ c119 ++ c173 ++ c123 ++ c154 ++ c131 ++ c165 ++ c155 ++ c186 ++ c168 ++ c174 ++ c183 ++ c184 ++ c185
  v := (.tuple [(.bool true), (.int .i64 0)])
  m := 8760
  fin := [(3011, some (.row [(.int .i64 3), (.int .i64 2), (.int .i64 0), (.slice (some (3056, 0)) 2 2), (.slice none 0 0), (.int .i64 (-3)), (.ptr (some (3073, 0))), (.ptr (some (4680, 0))), (.slice (some (3081, 0)) 2 2), (.ptr (some (4786, 0)))] 246 false 1))] ++ [(3039, some (.row [(.slice (some (8582, 0)) 2 2), (.int .i64 2), (.int .i64 2), (.int .i64 1000), (.int .i64 1), (.int .i64 1), (.map (some 3037)), (.rest 8625), (.map (some 3038)), (.int .i64 2)] 226 false 1))] ++ [(3081, some (.row [(.int .i64 (-3)), (.int .i64 (-3))] 3 false 1))] ++ [(4680, some (.row [(.slice (some (4659, 0)) 3 3), (.int .i64 2), (.int .i64 9), (.str [111, 117, 116]), (.slice (some (4669, 0)) 1 1), (.slice none 0 0), (.int .i64 0), (.str []), (.slice none 0 0), (.slice none 0 0), (.slice none 0 0), (.int .i64 0), (.int .i64 0), (.int .i64 0), (.int .i64 0), (.int .i64 0), (.slice none 0 0), (.slice none 0 0), (.int .i64 0), (.int .i64 0), (.slice none 0 0), (.bool false), (.int .i64 0), (.int .i64 1), (.slice none 0 0), (.int .i64 0), (.int .i64 0), (.slice (some (4672, 0)) 1 1), (.bool true), (.slice (some (4674, 0)) 1 1), (.bool false), (.int .i64 4), (.int .i64 0), (.int .i64 4), (.ptr (some (8750, 0))), (.iface 574 (.agg [(.slice (some (4659, 0)) 3 3), (.int .i64 2), (.int .i64 9), (.str [111, 117, 116]), (.slice (some (4669, 0)) 1 1), (.slice none 0 0), (.int .i64 0), (.str []), (.slice none 0 0), (.slice none 0 0), (.slice none 0 0), (.int .i64 0), (.int .i64 0), (.int .i64 0), (.int .i64 0), (.int .i64 0), (.slice none 0 0), (.slice none 0 0), (.int .i64 0), (.int .i64 0), (.slice none 0 0), (.bool false), (.int .i64 0), (.int .i64 1), (.slice none 0 0), (.int .i64 0), (.int .i64 0), (.slice (some (4672, 0)) 1 1), (.bool true), (.slice (some (4674, 0)) 1 1), (.bool false), (.int .i64 4), (.int .i64 0), (.int .i64 4)])), (.int .i64 (-3)), (.int .i64 0), (.int .i64 0)] 341 false 1))] ++ [(8075, some (.row [(.clip (7604, 0) 1), (.int .i64 0)] 254 false 1))] ++ [(8749, some (.row [(.int .i64 (-3)), (.bool false), (.bool false)] 355 false 1)), (8750, some (.row [(.slice (some (8749, 0)) 1 1), (.int .i64 (-3))] 352 false 1))]

def m103 : Ev.Note where
  f := 81
  args := [(.ptr (some (347, 0))), (.int .i64 23)]
  n := 8794
  old := c7 ++ c8 ++ c74 ++ c5 ++ c75 ++ c50 ++ c13 ++ c56 ++ c116 ++ c181 ++ c187 ++ [(3026, .row [(.int .i64 0)] 3 true 1), (3027, .map [] 2), (3028, .map [] 2), (3029, .row [(.slice (some (6888, 0)) 0 0), (.int .i64 2), (.int .i64 2), (.int .i64 1000), (.int .i64 2), (.int .i64 2), (.map (some 3027)), (.rest 7161), (.map (some 3028)), (.int .i64 0)] 226 false 1), (3030, .row [(.int .i64 0), (.int .i64 2), (.int .i64 0), (.ptr (some (3029, 0))), (.slice (some (7155, 0)) 2 2)] 129 false 1), (3034, .row [(.int .i64 0), (.int .i64 1)] 3 true 1), (3036, .row [(.int .i64 1)] 3 true 1), (3037, .map [] 1), (3038, .map [⟨(.int .i64 1), (.ptr (some (8793, 0))), 1⟩] 2), (3039, .row [(.slice (some (8582, 0)) 0 0), (.int .i64 2), (.int .i64 1), (.int .i64 1000), (.int .i64 2), (.int .i64 1), (.map (some 3037)), (.rest 8625), (.map (some 3038)), (.int .i64 2)] 226 false 1), (3040, .row [(.int .i64 1), (.int .i64 3), (.int .i64 0), (.ptr (some (3039, 0))), (.slice (some (8622, 0)) 1 1)] 129 false 1), (3044, .row [(.int .i64 2)] 3 true 1), (3047, .map [] 1), (3048, .map [] 1), (3049, .row [(.slice (some (7690, 0)) 0 0), (.int .i64 2), (.int .i64 1), (.int .i64 1000), (.int .i64 1), (.int .i64 1), (.map (some 3047)), (.slice (some (8124, 6)) 1 1), (.map (some 3048)), (.int .i64 1)] 226 false 1), (3050, .row [(.int .i64 2), (.int .i64 3), (.int .i64 0), (.ptr (some (3049, 0))), (.slice (some (8118, 0)) 1 1)] 129 false 1), (3052, .row [(.ptr (some (3020, 0))), (.ptr (some (3030, 0))), (.ptr (some (3040, 0))), (.ptr (some (3050, 0)))] 126 true 1), (3054, .row [(.int .i64 3)] 3 true 1), (3056, .row [(.int .i64 2), (.int .i64 3)] 3 true 1), (3058, .map [] 0), (3059, .row [(.slice (some (3062, 0)) 1 1), (.iface 419 (.agg [])), (.int .i64 0), (.int .i64 0), (.map (some 3058))] 418 false 1), (3060, .row [(.int .i64 0), (.bool false), (.slice none 0 0), (.bool false), (.bool false)] 422 false 1), (3062, .row [(.ptr (some (3060, 0)))] 420 true 1), (3064, .row [(.int .i64 1000000000001)] 3 false 1), (3065, .map [] 0), (3066, .row [(.slice (some (3069, 0)) 1 1), (.iface 419 (.agg [])), (.int .i64 0), (.int .i64 0), (.map (some 3065))] 418 false 1), (3067, .row [(.int .i64 0), (.bool false), (.slice none 0 0), (.bool false), (.bool false)] 422 false 1), (3069, .row [(.ptr (some (3067, 0)))] 420 true 1), (3071, .row [(.int .i64 1000000000001)] 3 false 1)] ++ [(3072, .map [] 0), (3073, .row [(.slice (some (3079, 0)) 2 2), (.iface 419 (.agg [])), (.int .i64 0), (.int .i64 0), (.map (some 3072))] 418 false 1), (3074, .row [(.int .i64 0), (.bool false), (.slice none 0 0), (.bool false), (.bool false)] 422 false 1), (3077, .row [(.int .i64 0), (.bool false), (.slice none 0 0), (.bool false), (.bool false)] 422 false 1), (3079, .row [(.ptr (some (3074, 0))), (.ptr (some (3077, 0)))] 420 true 1), (3081, .row [(.int .i64 (-3)), (.int .i64 (-3))] 3 false 1), (3082, .map [⟨(.int .i64 0), (.ptr (some (3257, 0))), 0⟩] 1), (3083, .map [⟨(.int .i64 0), (.slice none 0 0), 0⟩] 1), (3084, .map [⟨(.int .i64 0), (.slice (some (5965, 0)) 2 2), 0⟩] 1)] ++ c62 ++ c103 ++ c104 ++ c80 ++ c81 ++ c182 ++ c83 ++ c153 ++ c85 ++ c188 ++ c87 ++ c73 ++ c96 ++ c97 ++ c146 ++ c140 ++ c106 ++ c118 ++ c119 ++ c173 ++ c123 ++ c154 ++ c131 ++ c165 ++ c155 ++ c186 ++ c189 ++ c174 ++ c183 ++ c184 ++ c185 ++ c190 ++ c191
  v := (.tuple [(.bool true), (.int .i64 0)])
  m := 8853
  fin := [(3049, some (.row [(.slice (some (7690, 0)) 0 0), (.int .i64 2), (.int .i64 2), (.int .i64 1000), (.int .i64 1), (.int .i64 1), (.map (some 3047)), (.rest 8124), (.map (some 3048)), (.int .i64 0)] 226 false 1))] ++ [(3081, some (.row [(.int .i64 (-3)), (.int .i64 1000000000001)] 3 false 1))] ++ [(7726, some (.row [(.clip (7690, 0) 2), (.int .i64 0)] 254 false 1))]

def m104 : Ev.Note where
  f := 81
  args := [(.ptr (some (347, 0))), (.int .i64 24)]
  n := 8853
  old := c7 ++ c8 ++ c74 ++ c5 ++ c75 ++ c50 ++ c13 ++ c56 ++ c116 ++ c181 ++ c187 ++ [(3026, .row [(.int .i64 0)] 3 true 1), (3027, .map [] 2), (3028, .map [] 2), (3029, .row [(.slice (some (6888, 0)) 0 0), (.int .i64 2), (.int .i64 2), (.int .i64 1000), (.int .i64 2), (.int .i64 2), (.map (some 3027)), (.rest 7161), (.map (some 3028)), (.int .i64 0)] 226 false 1), (3030, .row [(.int .i64 0), (.int .i64 2), (.int .i64 0), (.ptr (some (3029, 0))), (.slice (some (7155, 0)) 2 2)] 129 false 1), (3034, .row [(.int .i64 0), (.int .i64 1)] 3 true 1), (3036, .row [(.int .i64 1)] 3 true 1), (3037, .map [] 1), (3038, .map [⟨(.int .i64 1), (.ptr (some (8793, 0))), 1⟩] 2), (3039, .row [(.slice (some (8582, 0)) 0 0), (.int .i64 2), (.int .i64 1), (.int .i64 1000), (.int .i64 2), (.int .i64 1), (.map (some 3037)), (.rest 8625), (.map (some 3038)), (.int .i64 2)] 226 false 1), (3040, .row [(.int .i64 1), (.int .i64 3), (.int .i64 0), (.ptr (some (3039, 0))), (.slice (some (8622, 0)) 1 1)] 129 false 1), (3044, .row [(.int .i64 2)] 3 true 1), (3047, .map [] 1), (3048, .map [] 1), (3049, .row [(.slice (some (7690, 0)) 0 0), (.int .i64 2), (.int .i64 2), (.int .i64 1000), (.int .i64 1), (.int .i64 1), (.map (some 3047)), (.rest 8124), (.map (some 3048)), (.int .i64 0)] 226 false 1), (3050, .row [(.int .i64 2), (.int .i64 3), (.int .i64 0), (.ptr (some (3049, 0))), (.slice (some (8118, 0)) 1 1)] 129 false 1), (3052, .row [(.ptr (some (3020, 0))), (.ptr (some (3030, 0))), (.ptr (some (3040, 0))), (.ptr (some (3050, 0)))] 126 true 1), (3054, .row [(.int .i64 3)] 3 true 1), (3056, .row [(.int .i64 2), (.int .i64 3)] 3 true 1), (3058, .map [] 0), (3059, .row [(.slice (some (3062, 0)) 1 1), (.iface 419 (.agg [])), (.int .i64 0), (.int .i64 0), (.map (some 3058))] 418 false 1), (3060, .row [(.int .i64 0), (.bool false), (.slice none 0 0), (.bool false), (.bool false)] 422 false 1), (3062, .row [(.ptr (some (3060, 0)))] 420 true 1), (3064, .row [(.int .i64 1000000000001)] 3 false 1), (3065, .map [] 0), (3066, .row [(.slice (some (3069, 0)) 1 1), (.iface 419 (.agg [])), (.int .i64 0), (.int .i64 0), (.map (some 3065))] 418 false 1), (3067, .row [(.int .i64 0), (.bool false), (.slice none 0 0), (.bool false), (.bool false)] 422 false 1), (3069, .row [(.ptr (some (3067, 0)))] 420 true 1), (3071, .row [(.int .i64 1000000000001)] 3 false 1)] ++ c192 ++ c62 ++ c103 ++ c104 ++ c80 ++ c81 ++ c182 ++ c83 ++ c153 ++ c85 ++ c188 ++ c87 ++ c73 ++ c96 ++ c97 ++ c146 ++ c140 ++ c106 ++ c118 ++ c119 ++ c173 ++ c123 ++ c154 ++ c131 ++ c165 ++ c155 ++ c193 ++ c189 ++ c174 ++ c183 ++ c184 ++ c185 ++ c190 ++ c191
  v := (.tuple [(.bool true), (.int .i64 0)])
  m := 8895
  fin := [(3037, some (.map [] 2)), (3038, some (.map [] 2)), (3039, some (.row [(.slice (some (8582, 0)) 0 0), (.int .i64 2), (.int .i64 1), (.int .i64 1000), (.int .i64 2), (.int .i64 2), (.map (some 3037)), (.slice (some (8894, 0)) 2 2), (.map (some 3038)), (.int .i64 2)] 226 false 1)), (3040, some (.row [(.int .i64 1), (.int .i64 3), (.int .i64 0), (.ptr (some (3039, 0))), (.slice (some (8888, 0)) 2 2)] 129 false 1))] ++ [(8622, none), (8625, none)] ++ c194

def m105 : Ev.Note where
  f := 430
  args := [(.ptr (some (3011, 0))), (.ptr (some (347, 0))), (.int .i64 0), (.agg [(.int .i64 1), (.int .i64 0), (.int .i64 9), (.slice (some (8952, 0)) 3 3), (.int .i64 1)])]
  n := 8956
  old := c7 ++ c8 ++ c74 ++ c5 ++ c75 ++ c50 ++ c13 ++ c56 ++ c116 ++ c181 ++ c187 ++ c195 ++ c192 ++ c62 ++ c103 ++ c104 ++ c80 ++ c81 ++ c182 ++ c83 ++ c153 ++ c85 ++ c188 ++ c87 ++ c73 ++ c96 ++ c97 ++ c146 ++ c140 ++ c106 ++ c118 ++ c119 ++ c173 ++ c123 ++ c154 ++ c131 ++ c155 ++ c193 ++ c174 ++ c183 ++ c184 ++ c190 ++ c196 ++ c197 ++ [(8952, .row [(.int .i64 1), (.int .i64 0), (.str []), (.int .i64 1), (.int .i64 10), (.str []), (.int .i64 1), (.int .i64 2), (.str [])] 51 true 3)]
  v := (.int .i64 0)
  m := 9103
  fin := c198 ++ c199 ++ c200 ++ c201

def m106 : Ev.Note where
  f := 81
  args := [(.ptr (some (347, 0))), (.int .i64 25)]
  n := 8895
  old := c7 ++ c8 ++ c74 ++ c5 ++ c75 ++ c50 ++ c13 ++ c56 ++ c116 ++ c181 ++ c187 ++ [(3026, .row [(.int .i64 0)] 3 true 1), (3027, .map [] 2), (3028, .map [] 2), (3029, .row [(.slice (some (6888, 0)) 0 0), (.int .i64 2), (.int .i64 2), (.int .i64 1000), (.int .i64 2), (.int .i64 2), (.map (some 3027)), (.rest 7161), (.map (some 3028)), (.int .i64 0)] 226 false 1), (3030, .row [(.int .i64 0), (.int .i64 2), (.int .i64 0), (.ptr (some (3029, 0))), (.slice (some (7155, 0)) 2 2)] 129 false 1), (3034, .row [(.int .i64 0), (.int .i64 1)] 3 true 1), (3036, .row [(.int .i64 1)] 3 true 1), (3037, .map [] 2), (3038, .map [] 2), (3039, .row [(.slice (some (8582, 0)) 0 0), (.int .i64 2), (.int .i64 1), (.int .i64 1000), (.int .i64 2), (.int .i64 2), (.map (some 3037)), (.slice (some (8894, 0)) 2 2), (.map (some 3038)), (.int .i64 2)] 226 false 1), (3040, .row [(.int .i64 1), (.int .i64 3), (.int .i64 0), (.ptr (some (3039, 0))), (.slice (some (8888, 0)) 2 2)] 129 false 1), (3044, .row [(.int .i64 2)] 3 true 1), (3047, .map [] 1), (3048, .map [] 1), (3049, .row [(.slice (some (7690, 0)) 0 0), (.int .i64 2), (.int .i64 2), (.int .i64 1000), (.int .i64 1), (.int .i64 1), (.map (some 3047)), (.rest 8124), (.map (some 3048)), (.int .i64 0)] 226 false 1), (3050, .row [(.int .i64 2), (.int .i64 3), (.int .i64 0), (.ptr (some (3049, 0))), (.slice (some (8118, 0)) 1 1)] 129 false 1), (3052, .row [(.ptr (some (3020, 0))), (.ptr (some (3030, 0))), (.ptr (some (3040, 0))), (.ptr (some (3050, 0)))] 126 true 1), (3054, .row [(.int .i64 3)] 3 true 1), (3056, .row [(.int .i64 2), (.int .i64 3)] 3 true 1), (3058, .map [] 0), (3059, .row [(.slice (some (3062, 0)) 1 1), (.iface 419 (.agg [])), (.int .i64 0), (.int .i64 0), (.map (some 3058))] 418 false 1), (3060, .row [(.int .i64 0), (.bool false), (.slice none 0 0), (.bool false), (.bool false)] 422 false 1), (3062, .row [(.ptr (some (3060, 0)))] 420 true 1), (3064, .row [(.int .i64 1000000000001)] 3 false 1), (3065, .map [] 0), (3066, .row [(.slice (some (3069, 0)) 1 1), (.iface 419 (.agg [])), (.int .i64 0), (.int .i64 0), (.map (some 3065))] 418 false 1), (3067, .row [(.int .i64 0), (.bool false), (.slice none 0 0), (.bool false), (.bool false)] 422 false 1), (3069, .row [(.ptr (some (3067, 0)))] 420 true 1), (3071, .row [(.int .i64 1000000000001)] 3 false 1)] ++ c192 ++ c62 ++ c103 ++ c104 ++ c80 ++ c81 ++ c182 ++ c83 ++ c153 ++ c85 ++ c188 ++ c87 ++ c73 ++ c96 ++ c97 ++ c146 ++ c140 ++ c106 ++ c118 ++ c119 ++ c173 ++ c123 ++ c154 ++ c131 ++ c155 ++ c193 ++ c174 ++ c183 ++ c184 ++ c190 ++ c191 ++ c197
  v := (.tuple [(.bool true), (.int .i64 0)])
  m := 9103
  fin := c198 ++ [(3039, some (.row [(.slice (some (8582, 0)) 0 0), (.int .i64 2), (.int .i64 1), (.int .i64 1000), (.int .i64 2), (.int .i64 2), (.map (some 3037)), (.slice (some (8894, 6)) 1 1), (.map (some 3038)), (.int .i64 1)] 226 false 1))] ++ c199 ++ c200 ++ [(8793, some (.row [(.clip (8582, 0) 2), (.int .i64 1)] 254 false 1))] ++ c201

def m107 : Ev.Note where
  f := 81
  args := [(.ptr (some (347, 0))), (.int .i64 26)]
  n := 9103
  old := c7 ++ c8 ++ c74 ++ c5 ++ c75 ++ c50 ++ c202 ++ c56 ++ c116 ++ c181 ++ c187 ++ c195 ++ c192 ++ c62 ++ c103 ++ c104 ++ c80 ++ c81 ++ c182 ++ c83 ++ c153 ++ c85 ++ [(4659, .row [(.int .i64 1), (.str [115]), (.slice none 0 0), (.slice (some (4661, 0)) 1 1), (.int .i64 5), (.str []), (.slice none 0 0), (.slice none 0 0), (.slice none 0 0), (.int .i64 0), (.int .i64 0), (.int .i64 0), (.int .i64 0), (.int .i64 0), (.slice none 0 0), (.slice none 0 0), (.int .i64 0), (.int .i64 0), (.slice none 0 0), (.bool false), (.int .i64 0), (.int .i64 0), (.slice none 0 0), (.int .i64 0), (.int .i64 0), (.int .i64 5), (.str [103]), (.slice (some (4663, 0)) 1 1), (.slice none 0 0), (.int .i64 0), (.str []), (.slice none 0 0), (.slice none 0 0), (.slice none 0 0), (.int .i64 1), (.int .i64 10), (.int .i64 0), (.int .i64 0), (.int .i64 0), (.slice (some (4665, 0)) 1 1), (.slice (some (4667, 0)) 1 1), (.int .i64 0), (.int .i64 0), (.slice none 0 0), (.bool false), (.int .i64 0), (.int .i64 0), (.slice none 0 0), (.int .i64 0), (.int .i64 0), (.int .i64 9), (.str [111, 117, 116]), (.slice (some (4669, 0)) 1 1), (.slice none 0 0), (.int .i64 0), (.str []), (.slice none 0 0), (.slice none 0 0), (.slice none 0 0), (.int .i64 0), (.int .i64 0), (.int .i64 0), (.int .i64 0), (.int .i64 0), (.slice none 0 0), (.slice none 0 0), (.int .i64 0), (.int .i64 0), (.slice none 0 0), (.bool false), (.int .i64 0), (.int .i64 1), (.slice none 0 0), (.int .i64 0), (.int .i64 0)] 110 true 25), (4661, .row [(.str [118]), (.int .i64 1)] 139 true 2), (4663, .row [(.int .i64 0)] 3 true 1), (4665, .row [(.int .i64 1), (.int .i64 0)] 141 true 2), (4667, .row [(.str [110])] 9 true 1), (4669, .row [(.int .i64 1)] 3 true 1), (4672, .row [(.slice (some (4494, 0)) 3 3)] 102 true 1), (4674, .row [(.bool true)] 4 true 1), (4680, .row [(.slice (some (4659, 0)) 3 3), (.int .i64 2), (.int .i64 9), (.str [111, 117, 116]), (.slice (some (4669, 0)) 1 1), (.slice none 0 0), (.int .i64 0), (.str []), (.slice none 0 0), (.slice none 0 0), (.slice none 0 0), (.int .i64 0), (.int .i64 0), (.int .i64 0), (.int .i64 0), (.int .i64 0), (.slice none 0 0), (.slice none 0 0), (.int .i64 0), (.int .i64 0), (.slice none 0 0), (.bool false), (.int .i64 0), (.int .i64 1), (.slice none 0 0), (.int .i64 0), (.int .i64 0), (.slice (some (4672, 0)) 1 1), (.bool true), (.slice (some (4674, 0)) 1 1), (.bool false), (.int .i64 4), (.int .i64 0), (.int .i64 4), (.ptr (some (8750, 0))), (.iface 574 (.agg [(.slice (some (4659, 0)) 3 3), (.int .i64 2), (.int .i64 9), (.str [111, 117, 116]), (.slice (some (4669, 0)) 1 1), (.slice none 0 0), (.int .i64 0), (.str []), (.slice none 0 0), (.slice none 0 0), (.slice none 0 0), (.int .i64 0), (.int .i64 0), (.int .i64 0), (.int .i64 0), (.int .i64 0), (.slice none 0 0), (.slice none 0 0), (.int .i64 0), (.int .i64 0), (.slice none 0 0), (.bool false), (.int .i64 0), (.int .i64 1), (.slice none 0 0), (.int .i64 0), (.int .i64 0), (.slice (some (4672, 0)) 1 1), (.bool true), (.slice (some (4674, 0)) 1 1), (.bool false), (.int .i64 4), (.int .i64 0), (.int .i64 4)])), (.int .i64 (-3)), (.int .i64 1), (.int .i64 1)] 341 false 1)] ++ c203 ++ c73 ++ c96 ++ c97 ++ c146 ++ c140 ++ c106 ++ c118 ++ c119 ++ c173 ++ c123 ++ c154 ++ c131 ++ c155 ++ c193 ++ c174 ++ c183 ++ c184 ++ c190 ++ c196 ++ c197 ++ c204
  v := (.tuple [(.bool true), (.int .i64 0)])
  m := 9175
  fin := [(3011, some (.row [(.int .i64 3), (.int .i64 2), (.int .i64 0), (.slice (some (3056, 0)) 2 2), (.slice none 0 0), (.int .i64 1000000000001), (.ptr (some (3073, 0))), (.ptr (some (4680, 0))), (.slice (some (3081, 0)) 2 2), (.ptr (some (4786, 0)))] 246 false 1))] ++ [(3039, some (.row [(.slice (some (8582, 0)) 0 0), (.int .i64 2), (.int .i64 2), (.int .i64 1000), (.int .i64 2), (.int .i64 2), (.map (some 3037)), (.rest 8894), (.map (some 3038)), (.int .i64 0)] 226 false 1))] ++ [(3081, some (.row [(.int .i64 1000000000001), (.int .i64 1000000000001)] 3 false 1))] ++ c205 ++ c206 ++ c207

def m108 : Ev.Note where
  f := 37
  args := [(.ptr (some (347, 0)))]
  n := 4864
  old := c7 ++ c8 ++ c74 ++ c5 ++ c75 ++ c50 ++ c13 ++ c56 ++ c57 ++ c76 ++ c89 ++ c60 ++ c61 ++ c62 ++ c90 ++ c91 ++ c80 ++ c81 ++ c82 ++ c83 ++ c84 ++ c85 ++ c86 ++ c87
  v := (.tuple [(.int .i64 27), (.int .i64 0)])
  m := 9204
  fin := c198 ++ c107 ++ [(2929, some (.row [(.int .i64 1), (.int .i64 1), (.int .i64 0), (.slice (some (3026, 0)) 1 1), (.slice (some (3044, 0)) 1 1), (.int .i64 1000000000001), (.ptr (some (3059, 0))), (.ptr (some (3760, 0))), (.slice (some (3064, 0)) 1 1), (.ptr none)] 246 false 1)), (2936, some (.row [(.int .i64 2), (.int .i64 1), (.int .i64 1), (.slice (some (3036, 0)) 1 1), (.slice (some (3054, 0)) 1 1), (.int .i64 1000000000001), (.ptr (some (3066, 0))), (.ptr (some (4221, 0))), (.slice (some (3071, 0)) 1 1), (.ptr none)] 246 false 1))] ++ [(3011, some (.row [(.int .i64 3), (.int .i64 2), (.int .i64 0), (.slice (some (3056, 0)) 2 2), (.slice none 0 0), (.int .i64 1000000000001), (.ptr (some (3073, 0))), (.ptr (some (4680, 0))), (.slice (some (3081, 0)) 2 2), (.ptr (some (4786, 0)))] 246 false 1)), (3017, some (.map [] 2)), (3018, some (.map [] 2)), (3019, some (.row [(.slice (some (6880, 0)) 0 0), (.int .i64 2), (.int .i64 2), (.int .i64 1000), (.int .i64 2), (.int .i64 2), (.map (some 3017)), (.rest 7035), (.map (some 3018)), (.int .i64 0)] 226 false 1)), (3020, some (.row [(.int .i64 0), (.int .i64 1), (.int .i64 0), (.ptr (some (3019, 0))), (.slice (some (7023, 0)) 2 2)] 129 false 1))] ++ [(3027, some (.map [] 2)), (3028, some (.map [] 2)), (3029, some (.row [(.slice (some (6888, 0)) 0 0), (.int .i64 2), (.int .i64 2), (.int .i64 1000), (.int .i64 2), (.int .i64 2), (.map (some 3027)), (.rest 7161), (.map (some 3028)), (.int .i64 0)] 226 false 1)), (3030, some (.row [(.int .i64 0), (.int .i64 2), (.int .i64 0), (.ptr (some (3029, 0))), (.slice (some (7155, 0)) 2 2)] 129 false 1)), (3037, some (.map [] 2)), (3038, some (.map [] 2)), (3039, some (.row [(.slice (some (8582, 0)) 0 0), (.int .i64 2), (.int .i64 2), (.int .i64 1000), (.int .i64 2), (.int .i64 2), (.map (some 3037)), (.rest 8894), (.map (some 3038)), (.int .i64 0)] 226 false 1)), (3040, some (.row [(.int .i64 1), (.int .i64 3), (.int .i64 0), (.ptr (some (3039, 0))), (.slice (some (8888, 0)) 2 2)] 129 false 1)), (3047, some (.map [] 1)), (3048, some (.map [] 1)), (3049, some (.row [(.slice (some (7690, 0)) 0 0), (.int .i64 2), (.int .i64 2), (.int .i64 1000), (.int .i64 1), (.int .i64 1), (.map (some 3047)), (.rest 8124), (.map (some 3048)), (.int .i64 0)] 226 false 1)), (3050, some (.row [(.int .i64 2), (.int .i64 3), (.int .i64 0), (.ptr (some (3049, 0))), (.slice (some (8118, 0)) 1 1)] 129 false 1)), (3064, some (.row [(.int .i64 1000000000001)] 3 false 1)), (3071, some (.row [(.int .i64 1000000000001)] 3 false 1))] ++ [(3081, some (.row [(.int .i64 1000000000001), (.int .i64 1000000000001)] 3 false 1)), (3084, some (.map [⟨(.int .i64 0), (.slice (some (5965, 0)) 2 2), 0⟩] 1))] ++ c111 ++ c112 ++ c177 ++ c149 ++ c205 ++ c200 ++ [(4900, some (.row [(.int .i64 1), (.int .i64 7), (.str [])] 51 true 3))] ++ c92 ++ c93 ++ c143 ++ c138 ++ c113 ++ c114 ++ c115 ++ c180 ++ c121 ++ c150 ++ c125 ++ c151 ++ [(7690, some (.row [(.int .i64 2), (.int .i64 (-3)), (.int .i64 0), (.slice none 0 0), (.int .i64 0), (.int .i64 2), (.int .i64 1000000000001), (.int .i64 0), (.slice none 0 0), (.int .i64 0)] 256 true 5)), (7726, some (.row [(.clip (7690, 0) 2), (.int .i64 0)] 254 false 1))] ++ c169 ++ c178 ++ c179 ++ c206 ++ c194 ++ c201 ++ c207

def m109 : Ev.Note where
  f := 38
  args := [(.ptr (some (347, 0))), (.str [])]
  n := 9204
  old := [(0, .tab .u64 [1, 10, 100, 1000, 10000, 100000, 1000000, 10000000, 100000000, 1000000000, 10000000000, 100000000000, 1000000000000, 10000000000000, 100000000000000, 1000000000000000, 10000000000000000, 100000000000000000, 1000000000000000000, 10000000000000000000])] ++ c7 ++ c8 ++ c74 ++ c5 ++ c75 ++ c50 ++ c202 ++ c56 ++ c116 ++ c181 ++ [(3009, .row [(.int .i64 3)] 3 true 1), (3011, .row [(.int .i64 3), (.int .i64 2), (.int .i64 0), (.slice (some (3056, 0)) 2 2), (.slice none 0 0), (.int .i64 1000000000001), (.ptr (some (3073, 0))), (.ptr (some (4680, 0))), (.slice (some (3081, 0)) 2 2), (.ptr (some (4786, 0)))] 246 false 1), (3013, .row [(.iface 178 (.ptr (some (2854, 0)))), (.iface 241 (.ptr (some (2929, 0)))), (.iface 241 (.ptr (some (2936, 0)))), (.iface 241 (.ptr (some (3011, 0))))] 170 true 1), (3017, .map [] 2), (3018, .map [] 2), (3019, .row [(.slice (some (6880, 0)) 0 0), (.int .i64 2), (.int .i64 2), (.int .i64 1000), (.int .i64 2), (.int .i64 2), (.map (some 3017)), (.rest 7035), (.map (some 3018)), (.int .i64 0)] 226 false 1), (3020, .row [(.int .i64 0), (.int .i64 1), (.int .i64 0), (.ptr (some (3019, 0))), (.slice (some (7023, 0)) 2 2)] 129 false 1)] ++ [(3026, .row [(.int .i64 0)] 3 true 1), (3027, .map [] 2), (3028, .map [] 2), (3029, .row [(.slice (some (6888, 0)) 0 0), (.int .i64 2), (.int .i64 2), (.int .i64 1000), (.int .i64 2), (.int .i64 2), (.map (some 3027)), (.rest 7161), (.map (some 3028)), (.int .i64 0)] 226 false 1), (3030, .row [(.int .i64 0), (.int .i64 2), (.int .i64 0), (.ptr (some (3029, 0))), (.slice (some (7155, 0)) 2 2)] 129 false 1), (3034, .row [(.int .i64 0), (.int .i64 1)] 3 true 1), (3036, .row [(.int .i64 1)] 3 true 1), (3037, .map [] 2), (3038, .map [] 2), (3039, .row [(.slice (some (8582, 0)) 0 0), (.int .i64 2), (.int .i64 2), (.int .i64 1000), (.int .i64 2), (.int .i64 2), (.map (some 3037)), (.rest 8894), (.map (some 3038)), (.int .i64 0)] 226 false 1), (3040, .row [(.int .i64 1), (.int .i64 3), (.int .i64 0), (.ptr (some (3039, 0))), (.slice (some (8888, 0)) 2 2)] 129 false 1), (3044, .row [(.int .i64 2)] 3 true 1), (3047, .map [] 1), (3048, .map [] 1), (3049, .row [(.slice (some (7690, 0)) 0 0), (.int .i64 2), (.int .i64 2), (.int .i64 1000), (.int .i64 1), (.int .i64 1), (.map (some 3047)), (.rest 8124), (.map (some 3048)), (.int .i64 0)] 226 false 1), (3050, .row [(.int .i64 2), (.int .i64 3), (.int .i64 0), (.ptr (some (3049, 0))), (.slice (some (8118, 0)) 1 1)] 129 false 1), (3052, .row [(.ptr (some (3020, 0))), (.ptr (some (3030, 0))), (.ptr (some (3040, 0))), (.ptr (some (3050, 0)))] 126 true 1), (3054, .row [(.int .i64 3)] 3 true 1), (3056, .row [(.int .i64 2), (.int .i64 3)] 3 true 1), (3058, .map [] 0), (3059, .row [(.slice (some (3062, 0)) 1 1), (.iface 419 (.agg [])), (.int .i64 0), (.int .i64 0), (.map (some 3058))] 418 false 1), (3060, .row [(.int .i64 0), (.bool false), (.slice none 0 0), (.bool false), (.bool false)] 422 false 1), (3062, .row [(.ptr (some (3060, 0)))] 420 true 1), (3064, .row [(.int .i64 1000000000001)] 3 false 1), (3065, .map [] 0), (3066, .row [(.slice (some (3069, 0)) 1 1), (.iface 419 (.agg [])), (.int .i64 0), (.int .i64 0), (.map (some 3065))] 418 false 1), (3067, .row [(.int .i64 0), (.bool false), (.slice none 0 0), (.bool false), (.bool false)] 422 false 1), (3069, .row [(.ptr (some (3067, 0)))] 420 true 1), (3071, .row [(.int .i64 1000000000001)] 3 false 1)] ++ c208 ++ c62 ++ c103 ++ c104 ++ c80 ++ c81 ++ c182 ++ c83 ++ c153 ++ c85 ++ c209 ++ c203 ++ c73 ++ c96 ++ c97 ++ c146 ++ c140 ++ c106 ++ c118 ++ c119 ++ c173 ++ c123 ++ c154 ++ c131 ++ c155 ++ c193 ++ c174 ++ c183 ++ c184 ++ c210 ++ c197 ++ c204 ++ c211
  v := (.tuple [(.int .i64 2), (.int .i64 0)])
  m := 9357
  fin := [(344, some (.map [⟨(.int .i64 2), (.ptr (some (9220, 0))), 0⟩] 1))] ++ [(486, some (.map [⟨(.int .i64 2), (.ptr (some (9211, 0))), 1⟩] 2)), (487, some (.row [(.int .i64 4), (.int .i64 1), (.int .i64 3), (.map (some 486)), (.int .i64 2)] 216 false 1))] ++ [(3019, some (.row [(.slice (some (9334, 0)) 1 1), (.int .i64 2), (.int .i64 2), (.int .i64 1000), (.int .i64 2), (.int .i64 2), (.map (some 3017)), (.rest 7035), (.map (some 3018)), (.int .i64 1)] 226 false 1))] ++ [(3029, some (.row [(.slice (some (9342, 0)) 1 1), (.int .i64 2), (.int .i64 2), (.int .i64 1000), (.int .i64 2), (.int .i64 2), (.map (some 3027)), (.rest 7161), (.map (some 3028)), (.int .i64 1)] 226 false 1))] ++ [(9210, some (.row [(.ptr (some (9346, 0))), (.ptr none), (.ptr none), (.ptr none)] 371 false 1)), (9211, some (.row [(.str []), (.int .u64 1), (.int .u64 0), (.int .u64 0), (.int .u64 0), (.int .u64 0), (.int .u64 0), (.int .u64 0), (.slice (some (9210, 0)) 4 4)] 213 false 1)), (9212, some (.map [⟨(.int .i64 0), (.str [49, 32, 49, 48, 48, 48, 48, 48, 48, 48, 48, 48, 48, 48, 49, 10, 112, 32, 48, 32, 50, 32, 49, 32, 53, 32, 99, 108, 111, 115, 101, 100, 10]), 0⟩] 1)), (9213, some (.map [⟨(.int .i64 0), (.slice (some (9318, 0)) 1 1), 0⟩] 1)), (9214, some (.map [⟨(.int .i64 0), (.slice none 0 0), 0⟩] 1)), (9215, some (.map [⟨(.int .i64 0), (.slice (some (9323, 0)) 2 2), 0⟩] 1))] ++ [(9216, some (.map [] 0)), (9217, some (.map [] 0)), (9218, some (.map [] 0)), (9219, some (.map [] 0)), (9220, some (.row [(.map (some 9212)), (.map (some 9213)), (.map (some 9214)), (.map (some 9215)), (.slice (some (9325, 0)) 1 1), (.map (some 9216)), (.map (some 9217)), (.map (some 9218)), (.map (some 9219)), (.slice none 0 0)] 124 false 1))] ++ [(9318, some (.row [(.str [112])] 9 true 1)), (9323, some (.row [(.int .i64 1), (.slice (some (4900, 0)) 1 1), (.int .i64 2), (.slice (some (5955, 0)) 1 1)] 55 true 2)), (9325, some (.row [(.int .i64 1000000000001)] 3 true 1)), (9334, some (.row [(.int .i64 3), (.int .i64 2), (.int .i64 0), (.slice none 0 0), (.int .i64 0)] 256 true 5)), (9342, some (.row [(.int .i64 3), (.int .i64 2), (.int .i64 0), (.slice none 0 0), (.int .i64 0)] 256 true 5)), (9346, some (.row [(.str []), (.slice none 0 0)] 374 false 1))]

def m110 : Ev.Note where
  f := 81
  args := [(.ptr (some (347, 0))), (.int .i64 2)]
  n := 9428
  old := c7 ++ c8 ++ c74 ++ c5 ++ c212 ++ c213 ++ c202 ++ c56 ++ c116 ++ c181 ++ [(3009, .row [(.int .i64 3)] 3 true 1), (3011, .row [(.int .i64 3), (.int .i64 2), (.int .i64 0), (.slice (some (3056, 0)) 2 2), (.slice none 0 0), (.int .i64 1000000000001), (.ptr (some (3073, 0))), (.ptr (some (4680, 0))), (.slice (some (3081, 0)) 2 2), (.ptr (some (4786, 0)))] 246 false 1), (3013, .row [(.iface 178 (.ptr (some (2854, 0)))), (.iface 241 (.ptr (some (2929, 0)))), (.iface 241 (.ptr (some (2936, 0)))), (.iface 241 (.ptr (some (3011, 0))))] 170 true 1), (3017, .map [] 2), (3018, .map [⟨(.int .i64 2), (.ptr (some (9390, 0))), 2⟩] 3), (3019, .row [(.slice (some (9334, 0)) 0 0), (.int .i64 2), (.int .i64 1), (.int .i64 1000), (.int .i64 3), (.int .i64 2), (.map (some 3017)), (.rest 7035), (.map (some 3018)), (.int .i64 1)] 226 false 1), (3020, .row [(.int .i64 0), (.int .i64 1), (.int .i64 0), (.ptr (some (3019, 0))), (.slice (some (7023, 0)) 2 2)] 129 false 1)] ++ [(3026, .row [(.int .i64 0)] 3 true 1), (3027, .map [] 2), (3028, .map [⟨(.int .i64 2), (.ptr (some (9427, 0))), 2⟩] 3), (3029, .row [(.slice (some (9342, 0)) 0 0), (.int .i64 2), (.int .i64 1), (.int .i64 1000), (.int .i64 3), (.int .i64 2), (.map (some 3027)), (.rest 7161), (.map (some 3028)), (.int .i64 1)] 226 false 1), (3030, .row [(.int .i64 0), (.int .i64 2), (.int .i64 0), (.ptr (some (3029, 0))), (.slice (some (7155, 0)) 2 2)] 129 false 1), (3034, .row [(.int .i64 0), (.int .i64 1)] 3 true 1), (3036, .row [(.int .i64 1)] 3 true 1), (3037, .map [] 2), (3038, .map [] 2), (3039, .row [(.slice (some (8582, 0)) 0 0), (.int .i64 2), (.int .i64 2), (.int .i64 1000), (.int .i64 2), (.int .i64 2), (.map (some 3037)), (.rest 8894), (.map (some 3038)), (.int .i64 0)] 226 false 1), (3040, .row [(.int .i64 1), (.int .i64 3), (.int .i64 0), (.ptr (some (3039, 0))), (.slice (some (8888, 0)) 2 2)] 129 false 1), (3044, .row [(.int .i64 2)] 3 true 1), (3047, .map [] 1), (3048, .map [] 1), (3049, .row [(.slice (some (7690, 0)) 0 0), (.int .i64 2), (.int .i64 2), (.int .i64 1000), (.int .i64 1), (.int .i64 1), (.map (some 3047)), (.rest 8124), (.map (some 3048)), (.int .i64 0)] 226 false 1), (3050, .row [(.int .i64 2), (.int .i64 3), (.int .i64 0), (.ptr (some (3049, 0))), (.slice (some (8118, 0)) 1 1)] 129 false 1), (3052, .row [(.ptr (some (3020, 0))), (.ptr (some (3030, 0))), (.ptr (some (3040, 0))), (.ptr (some (3050, 0)))] 126 true 1), (3054, .row [(.int .i64 3)] 3 true 1), (3056, .row [(.int .i64 2), (.int .i64 3)] 3 true 1), (3058, .map [] 0), (3059, .row [(.slice (some (3062, 0)) 1 1), (.iface 419 (.agg [])), (.int .i64 0), (.int .i64 0), (.map (some 3058))] 418 false 1), (3060, .row [(.int .i64 0), (.bool false), (.slice none 0 0), (.bool false), (.bool false)] 422 false 1), (3062, .row [(.ptr (some (3060, 0)))] 420 true 1), (3064, .row [(.int .i64 1000000000001)] 3 false 1), (3065, .map [] 0), (3066, .row [(.slice (some (3069, 0)) 1 1), (.iface 419 (.agg [])), (.int .i64 0), (.int .i64 0), (.map (some 3065))] 418 false 1), (3067, .row [(.int .i64 0), (.bool false), (.slice none 0 0), (.bool false), (.bool false)] 422 false 1), (3069, .row [(.ptr (some (3067, 0)))] 420 true 1), (3071, .row [(.int .i64 1000000000001)] 3 false 1)] ++ c208 ++ c62 ++ c103 ++ c104 ++ c80 ++ c81 ++ c182 ++ c83 ++ c153 ++ c85 ++ c209 ++ c203 ++ c73 ++ c96 ++ c97 ++ c146 ++ c140 ++ c106 ++ c118 ++ c119 ++ c173 ++ c123 ++ c154 ++ c131 ++ c155 ++ c193 ++ c174 ++ c183 ++ c184 ++ c210 ++ c197 ++ c204 ++ c211 ++ c214 ++ c215 ++ c216 ++ c217 ++ c218
  v := (.tuple [(.bool true), (.int .i64 0)])
  m := 9472
  fin := [(3017, some (.map [] 3)), (3018, some (.map [] 3)), (3019, some (.row [(.slice (some (9334, 0)) 0 0), (.int .i64 2), (.int .i64 1), (.int .i64 1000), (.int .i64 3), (.int .i64 3), (.map (some 3017)), (.slice (some (9471, 0)) 1 1), (.map (some 3018)), (.int .i64 1)] 226 false 1)), (3020, some (.row [(.int .i64 0), (.int .i64 1), (.int .i64 0), (.ptr (some (3019, 0))), (.slice (some (9468, 0)) 3 3)] 129 false 1))] ++ [(7023, none), (7035, none)] ++ c219

def m111 : Ev.Note where
  f := 81
  args := [(.ptr (some (347, 0))), (.int .i64 4)]
  n := 9513
  old := c7 ++ c8 ++ c74 ++ c5 ++ c212 ++ c213 ++ c202 ++ c56 ++ c116 ++ c181 ++ [(3009, .row [(.int .i64 3)] 3 true 1), (3011, .row [(.int .i64 3), (.int .i64 2), (.int .i64 0), (.slice (some (3056, 0)) 2 2), (.slice none 0 0), (.int .i64 1000000000001), (.ptr (some (3073, 0))), (.ptr (some (4680, 0))), (.slice (some (3081, 0)) 2 2), (.ptr (some (4786, 0)))] 246 false 1), (3013, .row [(.iface 178 (.ptr (some (2854, 0)))), (.iface 241 (.ptr (some (2929, 0)))), (.iface 241 (.ptr (some (2936, 0)))), (.iface 241 (.ptr (some (3011, 0))))] 170 true 1), (3017, .map [] 3), (3018, .map [] 3), (3019, .row [(.slice (some (9334, 0)) 0 0), (.int .i64 2), (.int .i64 1), (.int .i64 1000), (.int .i64 3), (.int .i64 3), (.map (some 3017)), (.slice (some (9471, 0)) 1 1), (.map (some 3018)), (.int .i64 1)] 226 false 1), (3020, .row [(.int .i64 0), (.int .i64 1), (.int .i64 0), (.ptr (some (3019, 0))), (.slice (some (9468, 0)) 3 3)] 129 false 1)] ++ [(3026, .row [(.int .i64 0)] 3 true 1), (3027, .map [] 3), (3028, .map [] 3), (3029, .row [(.slice (some (9342, 0)) 0 0), (.int .i64 2), (.int .i64 1), (.int .i64 1000), (.int .i64 3), (.int .i64 3), (.map (some 3027)), (.slice (some (9512, 0)) 1 1), (.map (some 3028)), (.int .i64 1)] 226 false 1), (3030, .row [(.int .i64 0), (.int .i64 2), (.int .i64 0), (.ptr (some (3029, 0))), (.slice (some (9509, 0)) 3 3)] 129 false 1), (3034, .row [(.int .i64 0), (.int .i64 1)] 3 true 1), (3036, .row [(.int .i64 1)] 3 true 1), (3037, .map [] 2), (3038, .map [] 2), (3039, .row [(.slice (some (8582, 0)) 0 0), (.int .i64 2), (.int .i64 2), (.int .i64 1000), (.int .i64 2), (.int .i64 2), (.map (some 3037)), (.rest 8894), (.map (some 3038)), (.int .i64 0)] 226 false 1), (3040, .row [(.int .i64 1), (.int .i64 3), (.int .i64 0), (.ptr (some (3039, 0))), (.slice (some (8888, 0)) 2 2)] 129 false 1), (3044, .row [(.int .i64 2)] 3 true 1), (3047, .map [] 1), (3048, .map [] 1), (3049, .row [(.slice (some (7690, 0)) 0 0), (.int .i64 2), (.int .i64 2), (.int .i64 1000), (.int .i64 1), (.int .i64 1), (.map (some 3047)), (.rest 8124), (.map (some 3048)), (.int .i64 0)] 226 false 1), (3050, .row [(.int .i64 2), (.int .i64 3), (.int .i64 0), (.ptr (some (3049, 0))), (.slice (some (8118, 0)) 1 1)] 129 false 1), (3052, .row [(.ptr (some (3020, 0))), (.ptr (some (3030, 0))), (.ptr (some (3040, 0))), (.ptr (some (3050, 0)))] 126 true 1), (3054, .row [(.int .i64 3)] 3 true 1), (3056, .row [(.int .i64 2), (.int .i64 3)] 3 true 1), (3058, .map [] 0), (3059, .row [(.slice (some (3062, 0)) 1 1), (.iface 419 (.agg [])), (.int .i64 0), (.int .i64 0), (.map (some 3058))] 418 false 1), (3060, .row [(.int .i64 0), (.bool false), (.slice none 0 0), (.bool false), (.bool false)] 422 false 1), (3062, .row [(.ptr (some (3060, 0)))] 420 true 1), (3064, .row [(.int .i64 1000000000001)] 3 false 1), (3065, .map [] 0), (3066, .row [(.slice (some (3069, 0)) 1 1), (.iface 419 (.agg [])), (.int .i64 0), (.int .i64 0), (.map (some 3065))] 418 false 1), (3067, .row [(.int .i64 0), (.bool false), (.slice none 0 0), (.bool false), (.bool false)] 422 false 1), (3069, .row [(.ptr (some (3067, 0)))] 420 true 1), (3071, .row [(.int .i64 1000000000001)] 3 false 1)] ++ c208 ++ c62 ++ c103 ++ c104 ++ c80 ++ c81 ++ c182 ++ c83 ++ c153 ++ c85 ++ c209 ++ c203 ++ c73 ++ c106 ++ c155 ++ c193 ++ c174 ++ c183 ++ c184 ++ c210 ++ c197 ++ c204 ++ c211 ++ c214 ++ c215 ++ c216 ++ c217 ++ c218 ++ c220 ++ c221
  v := (.tuple [(.bool true), (.int .i64 0)])
  m := 9672
  fin := [(3019, some (.row [(.slice (some (9334, 0)) 0 0), (.int .i64 2), (.int .i64 2), (.int .i64 1000), (.int .i64 3), (.int .i64 3), (.map (some 3017)), (.rest 9471), (.map (some 3018)), (.int .i64 0)] 226 false 1))] ++ [(3039, some (.row [(.slice (some (9671, 0)) 1 1), (.int .i64 2), (.int .i64 2), (.int .i64 1000), (.int .i64 2), (.int .i64 2), (.map (some 3037)), (.rest 8894), (.map (some 3038)), (.int .i64 1)] 226 false 1)), (3059, some (.row [(.slice (some (3062, 0)) 1 1), (.iface 419 (.agg [])), (.int .i64 0), (.int .i64 2), (.map (some 3058))] 418 false 1)), (3060, some (.row [(.int .i64 2), (.bool false), (.slice none 0 0), (.bool false), (.bool false)] 422 false 1))] ++ [(9210, some (.row [(.ptr (some (9346, 0))), (.ptr (some (9652, 0))), (.ptr none), (.ptr none)] 371 false 1)), (9211, some (.row [(.str []), (.int .u64 3), (.int .u64 0), (.int .u64 0), (.int .u64 0), (.int .u64 0), (.int .u64 0), (.int .u64 0), (.slice (some (9210, 0)) 4 4)] 213 false 1))] ++ [(9216, some (.map [⟨(.int .i64 1), (.slice (some (9586, 0)) 1 1), 0⟩] 1)), (9218, some (.map [⟨(.int .i64 1), (.slice none 0 0), 0⟩] 1))] ++ c222 ++ [(9586, some (.row [(.int .i64 1000000000001)] 3 true 1))] ++ c223

def m112 : Ev.Note where
  f := 81
  args := [(.ptr (some (347, 0))), (.int .i64 6)]
  n := 9706
  old := c7 ++ c8 ++ c74 ++ c5 ++ c212 ++ c213 ++ c202 ++ c56 ++ c116 ++ c181 ++ c224 ++ [(3026, .row [(.int .i64 0)] 3 true 1), (3027, .map [] 3), (3028, .map [] 3), (3029, .row [(.slice (some (9342, 0)) 0 0), (.int .i64 2), (.int .i64 1), (.int .i64 1000), (.int .i64 3), (.int .i64 3), (.map (some 3027)), (.slice (some (9512, 0)) 1 1), (.map (some 3028)), (.int .i64 1)] 226 false 1), (3030, .row [(.int .i64 0), (.int .i64 2), (.int .i64 0), (.ptr (some (3029, 0))), (.slice (some (9509, 0)) 3 3)] 129 false 1), (3034, .row [(.int .i64 0), (.int .i64 1)] 3 true 1), (3036, .row [(.int .i64 1)] 3 true 1), (3037, .map [] 2), (3038, .map [⟨(.int .i64 2), (.ptr (some (9705, 0))), 2⟩] 3), (3039, .row [(.slice (some (9671, 0)) 0 0), (.int .i64 2), (.int .i64 1), (.int .i64 1000), (.int .i64 3), (.int .i64 2), (.map (some 3037)), (.rest 8894), (.map (some 3038)), (.int .i64 1)] 226 false 1), (3040, .row [(.int .i64 1), (.int .i64 3), (.int .i64 0), (.ptr (some (3039, 0))), (.slice (some (8888, 0)) 2 2)] 129 false 1), (3044, .row [(.int .i64 2)] 3 true 1), (3047, .map [] 1), (3048, .map [] 1), (3049, .row [(.slice (some (7690, 0)) 0 0), (.int .i64 2), (.int .i64 2), (.int .i64 1000), (.int .i64 1), (.int .i64 1), (.map (some 3047)), (.rest 8124), (.map (some 3048)), (.int .i64 0)] 226 false 1), (3050, .row [(.int .i64 2), (.int .i64 3), (.int .i64 0), (.ptr (some (3049, 0))), (.slice (some (8118, 0)) 1 1)] 129 false 1), (3052, .row [(.ptr (some (3020, 0))), (.ptr (some (3030, 0))), (.ptr (some (3040, 0))), (.ptr (some (3050, 0)))] 126 true 1), (3054, .row [(.int .i64 3)] 3 true 1), (3056, .row [(.int .i64 2), (.int .i64 3)] 3 true 1), (3058, .map [] 0), (3059, .row [(.slice (some (3062, 0)) 1 1), (.iface 419 (.agg [])), (.int .i64 0), (.int .i64 2), (.map (some 3058))] 418 false 1), (3060, .row [(.int .i64 2), (.bool false), (.slice none 0 0), (.bool false), (.bool false)] 422 false 1), (3062, .row [(.ptr (some (3060, 0)))] 420 true 1), (3064, .row [(.int .i64 1000000000001)] 3 false 1), (3065, .map [] 0), (3066, .row [(.slice (some (3069, 0)) 1 1), (.iface 419 (.agg [])), (.int .i64 0), (.int .i64 0), (.map (some 3065))] 418 false 1), (3067, .row [(.int .i64 0), (.bool false), (.slice none 0 0), (.bool false), (.bool false)] 422 false 1), (3069, .row [(.ptr (some (3067, 0)))] 420 true 1), (3071, .row [(.int .i64 1000000000001)] 3 false 1)] ++ c208 ++ c62 ++ c103 ++ c104 ++ c80 ++ c81 ++ c182 ++ c83 ++ c153 ++ c85 ++ c209 ++ c203 ++ c73 ++ c106 ++ c155 ++ c193 ++ c174 ++ c183 ++ c184 ++ c210 ++ c197 ++ c204 ++ c211 ++ [(9210, .row [(.ptr (some (9346, 0))), (.ptr (some (9652, 0))), (.ptr none), (.ptr none)] 371 false 1), (9211, .row [(.str []), (.int .u64 3), (.int .u64 0), (.int .u64 0), (.int .u64 0), (.int .u64 0), (.int .u64 0), (.int .u64 0), (.slice (some (9210, 0)) 4 4)] 213 false 1), (9212, .map [⟨(.int .i64 0), (.str [49, 32, 49, 48, 48, 48, 48, 48, 48, 48, 48, 48, 48, 48, 49, 10, 112, 32, 48, 32, 50, 32, 49, 32, 53, 32, 99, 108, 111, 115, 101, 100, 10]), 0⟩] 1), (9213, .map [⟨(.int .i64 0), (.slice (some (9318, 0)) 1 1), 0⟩] 1), (9214, .map [⟨(.int .i64 0), (.slice none 0 0), 0⟩] 1), (9215, .map [⟨(.int .i64 0), (.slice (some (9323, 0)) 2 2), 0⟩] 1)] ++ [(9216, .map [⟨(.int .i64 1), (.slice (some (9586, 0)) 1 1), 0⟩] 1), (9217, .map [] 0), (9218, .map [⟨(.int .i64 1), (.slice none 0 0), 0⟩] 1), (9219, .map [] 0), (9220, .row [(.map (some 9212)), (.map (some 9213)), (.map (some 9214)), (.map (some 9215)), (.slice (some (9325, 0)) 1 1), (.map (some 9216)), (.map (some 9217)), (.map (some 9218)), (.map (some 9219)), (.slice none 0 0)] 124 false 1)] ++ c216 ++ c225 ++ c218 ++ c220 ++ c221 ++ [(9586, .row [(.int .i64 1000000000001)] 3 true 1)] ++ c226 ++ c227
  v := (.tuple [(.bool true), (.int .i64 0)])
  m := 9868
  fin := [(3029, some (.row [(.slice (some (9342, 0)) 0 0), (.int .i64 2), (.int .i64 2), (.int .i64 1000), (.int .i64 3), (.int .i64 3), (.map (some 3027)), (.rest 9512), (.map (some 3028)), (.int .i64 0)] 226 false 1)), (3049, some (.row [(.slice (some (9867, 0)) 1 1), (.int .i64 2), (.int .i64 2), (.int .i64 1000), (.int .i64 1), (.int .i64 1), (.map (some 3047)), (.rest 8124), (.map (some 3048)), (.int .i64 1)] 226 false 1)), (3066, some (.row [(.slice (some (3069, 0)) 1 1), (.iface 419 (.agg [])), (.int .i64 0), (.int .i64 2), (.map (some 3065))] 418 false 1)), (3067, some (.row [(.int .i64 2), (.bool false), (.slice none 0 0), (.bool false), (.bool false)] 422 false 1))] ++ [(9210, some (.row [(.ptr (some (9346, 0))), (.ptr (some (9652, 0))), (.ptr (some (9848, 0))), (.ptr none)] 371 false 1)), (9211, some (.row [(.str []), (.int .u64 7), (.int .u64 0), (.int .u64 0), (.int .u64 0), (.int .u64 0), (.int .u64 0), (.int .u64 0), (.slice (some (9210, 0)) 4 4)] 213 false 1))] ++ [(9216, some (.map [⟨(.int .i64 1), (.slice (some (9782, 0)) 1 1), 0⟩] 1)), (9218, some (.map [⟨(.int .i64 1), (.slice none 0 0), 0⟩, ⟨(.int .i64 2), (.slice none 0 0), 1⟩] 2))] ++ c228 ++ c229 ++ c230

def m113 : Ev.Note where
  f := 81
  args := [(.ptr (some (347, 0))), (.int .i64 8)]
  n := 9905
  old := c7 ++ c8 ++ c74 ++ c5 ++ c212 ++ c213 ++ c202 ++ c56 ++ c116 ++ c181 ++ c224 ++ [(3026, .row [(.int .i64 0)] 3 true 1), (3027, .map [] 3), (3028, .map [] 3), (3029, .row [(.slice (some (9342, 0)) 0 0), (.int .i64 2), (.int .i64 2), (.int .i64 1000), (.int .i64 3), (.int .i64 3), (.map (some 3027)), (.rest 9512), (.map (some 3028)), (.int .i64 0)] 226 false 1), (3030, .row [(.int .i64 0), (.int .i64 2), (.int .i64 0), (.ptr (some (3029, 0))), (.slice (some (9509, 0)) 3 3)] 129 false 1), (3034, .row [(.int .i64 0), (.int .i64 1)] 3 true 1), (3036, .row [(.int .i64 1)] 3 true 1), (3037, .map [] 2), (3038, .map [⟨(.int .i64 2), (.ptr (some (9705, 0))), 2⟩] 3), (3039, .row [(.slice (some (9671, 0)) 0 0), (.int .i64 2), (.int .i64 1), (.int .i64 1000), (.int .i64 3), (.int .i64 2), (.map (some 3037)), (.rest 8894), (.map (some 3038)), (.int .i64 1)] 226 false 1), (3040, .row [(.int .i64 1), (.int .i64 3), (.int .i64 0), (.ptr (some (3039, 0))), (.slice (some (8888, 0)) 2 2)] 129 false 1), (3044, .row [(.int .i64 2)] 3 true 1), (3047, .map [] 1), (3048, .map [⟨(.int .i64 1), (.ptr (some (9904, 0))), 1⟩] 2), (3049, .row [(.slice (some (9867, 0)) 0 0), (.int .i64 2), (.int .i64 1), (.int .i64 1000), (.int .i64 2), (.int .i64 1), (.map (some 3047)), (.rest 8124), (.map (some 3048)), (.int .i64 1)] 226 false 1), (3050, .row [(.int .i64 2), (.int .i64 3), (.int .i64 0), (.ptr (some (3049, 0))), (.slice (some (8118, 0)) 1 1)] 129 false 1), (3052, .row [(.ptr (some (3020, 0))), (.ptr (some (3030, 0))), (.ptr (some (3040, 0))), (.ptr (some (3050, 0)))] 126 true 1), (3054, .row [(.int .i64 3)] 3 true 1), (3056, .row [(.int .i64 2), (.int .i64 3)] 3 true 1), (3058, .map [] 0), (3059, .row [(.slice (some (3062, 0)) 1 1), (.iface 419 (.agg [])), (.int .i64 0), (.int .i64 2), (.map (some 3058))] 418 false 1), (3060, .row [(.int .i64 2), (.bool false), (.slice none 0 0), (.bool false), (.bool false)] 422 false 1), (3062, .row [(.ptr (some (3060, 0)))] 420 true 1), (3064, .row [(.int .i64 1000000000001)] 3 false 1), (3065, .map [] 0), (3066, .row [(.slice (some (3069, 0)) 1 1), (.iface 419 (.agg [])), (.int .i64 0), (.int .i64 2), (.map (some 3065))] 418 false 1), (3067, .row [(.int .i64 2), (.bool false), (.slice none 0 0), (.bool false), (.bool false)] 422 false 1), (3069, .row [(.ptr (some (3067, 0)))] 420 true 1), (3071, .row [(.int .i64 1000000000001)] 3 false 1)] ++ c208 ++ c62 ++ c103 ++ c104 ++ c80 ++ c81 ++ c182 ++ c83 ++ c153 ++ c85 ++ c209 ++ c203 ++ c73 ++ c106 ++ c155 ++ c193 ++ c174 ++ c183 ++ c184 ++ c210 ++ c197 ++ c204 ++ c211 ++ c231 ++ c232 ++ c216 ++ c225 ++ c233 ++ c220 ++ c221 ++ c226 ++ c227 ++ c234 ++ c235 ++ c236
  v := (.tuple [(.bool true), (.int .i64 0)])
  m := 9949
  fin := [(3037, some (.map [] 3)), (3038, some (.map [] 3)), (3039, some (.row [(.slice (some (9671, 0)) 0 0), (.int .i64 2), (.int .i64 1), (.int .i64 1000), (.int .i64 3), (.int .i64 3), (.map (some 3037)), (.slice (some (9948, 0)) 1 1), (.map (some 3038)), (.int .i64 1)] 226 false 1)), (3040, some (.row [(.int .i64 1), (.int .i64 3), (.int .i64 0), (.ptr (some (3039, 0))), (.slice (some (9945, 0)) 3 3)] 129 false 1))] ++ [(8888, none), (8894, none)] ++ c237

def m114 : Ev.Note where
  f := 81
  args := [(.ptr (some (347, 0))), (.int .i64 9)]
  n := 9949
  old := c7 ++ c8 ++ c74 ++ c5 ++ c212 ++ c213 ++ c202 ++ c56 ++ c116 ++ c181 ++ c224 ++ [(3026, .row [(.int .i64 0)] 3 true 1), (3027, .map [] 3), (3028, .map [] 3), (3029, .row [(.slice (some (9342, 0)) 0 0), (.int .i64 2), (.int .i64 2), (.int .i64 1000), (.int .i64 3), (.int .i64 3), (.map (some 3027)), (.rest 9512), (.map (some 3028)), (.int .i64 0)] 226 false 1), (3030, .row [(.int .i64 0), (.int .i64 2), (.int .i64 0), (.ptr (some (3029, 0))), (.slice (some (9509, 0)) 3 3)] 129 false 1), (3034, .row [(.int .i64 0), (.int .i64 1)] 3 true 1), (3036, .row [(.int .i64 1)] 3 true 1), (3037, .map [] 3), (3038, .map [] 3), (3039, .row [(.slice (some (9671, 0)) 0 0), (.int .i64 2), (.int .i64 1), (.int .i64 1000), (.int .i64 3), (.int .i64 3), (.map (some 3037)), (.slice (some (9948, 0)) 1 1), (.map (some 3038)), (.int .i64 1)] 226 false 1), (3040, .row [(.int .i64 1), (.int .i64 3), (.int .i64 0), (.ptr (some (3039, 0))), (.slice (some (9945, 0)) 3 3)] 129 false 1), (3044, .row [(.int .i64 2)] 3 true 1), (3047, .map [] 1), (3048, .map [⟨(.int .i64 1), (.ptr (some (9904, 0))), 1⟩] 2), (3049, .row [(.slice (some (9867, 0)) 0 0), (.int .i64 2), (.int .i64 1), (.int .i64 1000), (.int .i64 2), (.int .i64 1), (.map (some 3047)), (.rest 8124), (.map (some 3048)), (.int .i64 1)] 226 false 1), (3050, .row [(.int .i64 2), (.int .i64 3), (.int .i64 0), (.ptr (some (3049, 0))), (.slice (some (8118, 0)) 1 1)] 129 false 1), (3052, .row [(.ptr (some (3020, 0))), (.ptr (some (3030, 0))), (.ptr (some (3040, 0))), (.ptr (some (3050, 0)))] 126 true 1), (3054, .row [(.int .i64 3)] 3 true 1), (3056, .row [(.int .i64 2), (.int .i64 3)] 3 true 1), (3058, .map [] 0), (3059, .row [(.slice (some (3062, 0)) 1 1), (.iface 419 (.agg [])), (.int .i64 0), (.int .i64 2), (.map (some 3058))] 418 false 1), (3060, .row [(.int .i64 2), (.bool false), (.slice none 0 0), (.bool false), (.bool false)] 422 false 1), (3062, .row [(.ptr (some (3060, 0)))] 420 true 1), (3064, .row [(.int .i64 1000000000001)] 3 false 1), (3065, .map [] 0), (3066, .row [(.slice (some (3069, 0)) 1 1), (.iface 419 (.agg [])), (.int .i64 0), (.int .i64 2), (.map (some 3065))] 418 false 1), (3067, .row [(.int .i64 2), (.bool false), (.slice none 0 0), (.bool false), (.bool false)] 422 false 1), (3069, .row [(.ptr (some (3067, 0)))] 420 true 1), (3071, .row [(.int .i64 1000000000001)] 3 false 1)] ++ c208 ++ c62 ++ c103 ++ c104 ++ c80 ++ c81 ++ c182 ++ c83 ++ c153 ++ c85 ++ c209 ++ c203 ++ c73 ++ c106 ++ c155 ++ c193 ++ c174 ++ c183 ++ c204 ++ c211 ++ c231 ++ c232 ++ c216 ++ c225 ++ c233 ++ c220 ++ c221 ++ c226 ++ c227 ++ c234 ++ c235 ++ c236 ++ c238
  v := (.tuple [(.bool true), (.int .i64 0)])
  m := 9990
  fin := [(3047, some (.map [] 2)), (3048, some (.map [] 2)), (3049, some (.row [(.slice (some (9867, 0)) 0 0), (.int .i64 2), (.int .i64 1), (.int .i64 1000), (.int .i64 2), (.int .i64 2), (.map (some 3047)), (.slice (some (9989, 0)) 1 1), (.map (some 3048)), (.int .i64 1)] 226 false 1)), (3050, some (.row [(.int .i64 2), (.int .i64 3), (.int .i64 0), (.ptr (some (3049, 0))), (.slice (some (9986, 0)) 2 2)] 129 false 1))] ++ [(8118, none), (8124, none)] ++ c239

def m115 : Ev.Note where
  f := 81
  args := [(.ptr (some (347, 0))), (.int .i64 10)]
  n := 9990
  old := c7 ++ c8 ++ c74 ++ c5 ++ c212 ++ c213 ++ c202 ++ c56 ++ c116 ++ c181 ++ c224 ++ [(3026, .row [(.int .i64 0)] 3 true 1), (3027, .map [] 3), (3028, .map [] 3), (3029, .row [(.slice (some (9342, 0)) 0 0), (.int .i64 2), (.int .i64 2), (.int .i64 1000), (.int .i64 3), (.int .i64 3), (.map (some 3027)), (.rest 9512), (.map (some 3028)), (.int .i64 0)] 226 false 1), (3030, .row [(.int .i64 0), (.int .i64 2), (.int .i64 0), (.ptr (some (3029, 0))), (.slice (some (9509, 0)) 3 3)] 129 false 1), (3034, .row [(.int .i64 0), (.int .i64 1)] 3 true 1), (3036, .row [(.int .i64 1)] 3 true 1), (3037, .map [] 3), (3038, .map [] 3), (3039, .row [(.slice (some (9671, 0)) 0 0), (.int .i64 2), (.int .i64 1), (.int .i64 1000), (.int .i64 3), (.int .i64 3), (.map (some 3037)), (.slice (some (9948, 0)) 1 1), (.map (some 3038)), (.int .i64 1)] 226 false 1), (3040, .row [(.int .i64 1), (.int .i64 3), (.int .i64 0), (.ptr (some (3039, 0))), (.slice (some (9945, 0)) 3 3)] 129 false 1), (3044, .row [(.int .i64 2)] 3 true 1), (3047, .map [] 2), (3048, .map [] 2), (3049, .row [(.slice (some (9867, 0)) 0 0), (.int .i64 2), (.int .i64 1), (.int .i64 1000), (.int .i64 2), (.int .i64 2), (.map (some 3047)), (.slice (some (9989, 0)) 1 1), (.map (some 3048)), (.int .i64 1)] 226 false 1), (3050, .row [(.int .i64 2), (.int .i64 3), (.int .i64 0), (.ptr (some (3049, 0))), (.slice (some (9986, 0)) 2 2)] 129 false 1), (3052, .row [(.ptr (some (3020, 0))), (.ptr (some (3030, 0))), (.ptr (some (3040, 0))), (.ptr (some (3050, 0)))] 126 true 1), (3054, .row [(.int .i64 3)] 3 true 1), (3056, .row [(.int .i64 2), (.int .i64 3)] 3 true 1), (3058, .map [] 0), (3059, .row [(.slice (some (3062, 0)) 1 1), (.iface 419 (.agg [])), (.int .i64 0), (.int .i64 2), (.map (some 3058))] 418 false 1), (3060, .row [(.int .i64 2), (.bool false), (.slice none 0 0), (.bool false), (.bool false)] 422 false 1), (3062, .row [(.ptr (some (3060, 0)))] 420 true 1), (3064, .row [(.int .i64 1000000000001)] 3 false 1), (3065, .map [] 0), (3066, .row [(.slice (some (3069, 0)) 1 1), (.iface 419 (.agg [])), (.int .i64 0), (.int .i64 2), (.map (some 3065))] 418 false 1), (3067, .row [(.int .i64 2), (.bool false), (.slice none 0 0), (.bool false), (.bool false)] 422 false 1), (3069, .row [(.ptr (some (3067, 0)))] 420 true 1), (3071, .row [(.int .i64 1000000000001)] 3 false 1)] ++ c208 ++ c62 ++ c103 ++ c104 ++ c80 ++ c81 ++ c182 ++ c83 ++ c153 ++ c85 ++ c209 ++ c203 ++ c73 ++ c106 ++ c155 ++ c183 ++ c204 ++ c211 ++ c231 ++ c232 ++ c216 ++ c225 ++ c233 ++ c220 ++ c221 ++ c226 ++ c227 ++ c234 ++ c235 ++ c236 ++ c238 ++ c240
  v := (.tuple [(.bool true), (.int .i64 0)])
  m := 10041
  fin := [(3039, some (.row [(.slice (some (9671, 0)) 0 0), (.int .i64 2), (.int .i64 2), (.int .i64 1000), (.int .i64 3), (.int .i64 3), (.map (some 3037)), (.rest 9948), (.map (some 3038)), (.int .i64 0)] 226 false 1))] ++ [(3073, some (.row [(.slice (some (3079, 0)) 2 2), (.iface 419 (.agg [])), (.int .i64 2), (.int .i64 0), (.map (some 3072))] 418 false 1)), (3074, some (.row [(.int .i64 2), (.bool false), (.slice none 0 0), (.bool true), (.bool false)] 422 false 1))] ++ c241

def m116 : Ev.Note where
  f := 125
  args := [(.ptr (some (347, 0)))]
  n := 10251
  old := c7 ++ c8 ++ c74 ++ c5 ++ c212 ++ c213 ++ c242 ++ c56 ++ c116 ++ c181 ++ c224 ++ c243 ++ c244 ++ c62 ++ c103 ++ c104 ++ c80 ++ c81 ++ c182 ++ c83 ++ c153 ++ c85 ++ c209 ++ [(4786, .row [(.ptr (some (563, 0))), (.int .i64 0), (.int .i64 2), (.bool true), (.str []), (.slice none 0 0), (.slice (some (10195, 0)) 1 1)] 376 false 1)] ++ c73 ++ c106 ++ c155 ++ c183 ++ c245 ++ c211 ++ c246 ++ c247 ++ c216 ++ c225 ++ c233 ++ c220 ++ c221 ++ c226 ++ c248 ++ c234 ++ c235 ++ c249 ++ c238 ++ c240 ++ c250 ++ [(10183, .row [(.int .i64 2), (.slice (some (10189, 0)) 1 1), (.int .i64 0)] 283 false 1), (10187, .row [(.int .i64 1), (.int .i64 0), (.str []), (.int .i64 1), (.int .i64 10), (.str []), (.int .i64 1), (.int .i64 2), (.str [])] 51 true 3), (10189, .row [(.int .i64 9), (.slice (some (10187, 0)) 3 3), (.int .i64 1)] 193 true 3), (10195, .row [(.str [112, 48, 95, 50])] 9 true 1), (10198, .row [(.str [112, 48, 95, 50])] 9 true 1), (10202, .row [(.str []), (.slice none 0 0)] 374 false 1)]
  v := (.slice (some (10257, 0)) 3 3)
  m := 10258
  fin := [(10257, some (.row [(.int .i64 1), (.int .i64 2), (.int .i64 3)] 3 true 1))]

def m117 : Ev.Note where
  f := 430
  args := [(.ptr (some (3011, 0))), (.ptr (some (347, 0))), (.int .i64 1), (.agg [(.int .i64 3), (.int .i64 2), (.int .i64 0), (.slice none 0 0), (.int .i64 0)])]
  n := 10104
  old := c7 ++ c8 ++ c74 ++ c5 ++ c212 ++ c213 ++ c202 ++ c56 ++ c116 ++ c181 ++ c224 ++ c243 ++ c244 ++ c62 ++ c103 ++ c104 ++ c80 ++ c81 ++ c182 ++ c83 ++ c153 ++ c85 ++ c209 ++ c203 ++ c73 ++ c106 ++ c155 ++ c183 ++ c204 ++ c211 ++ c231 ++ c232 ++ c216 ++ c225 ++ c233 ++ c220 ++ c221 ++ c226 ++ c248 ++ c234 ++ c235 ++ c249 ++ c238 ++ c240
  v := (.int .i64 0)
  m := 10286
  fin := c251 ++ c252 ++ c253 ++ c254 ++ c255 ++ c256 ++ c257 ++ c258

def m118 : Ev.Note where
  f := 81
  args := [(.ptr (some (347, 0))), (.int .i64 11)]
  n := 10041
  old := c7 ++ c8 ++ c74 ++ c5 ++ c212 ++ c213 ++ c202 ++ c56 ++ c116 ++ c181 ++ c224 ++ [(3026, .row [(.int .i64 0)] 3 true 1), (3027, .map [] 3), (3028, .map [] 3), (3029, .row [(.slice (some (9342, 0)) 0 0), (.int .i64 2), (.int .i64 2), (.int .i64 1000), (.int .i64 3), (.int .i64 3), (.map (some 3027)), (.rest 9512), (.map (some 3028)), (.int .i64 0)] 226 false 1), (3030, .row [(.int .i64 0), (.int .i64 2), (.int .i64 0), (.ptr (some (3029, 0))), (.slice (some (9509, 0)) 3 3)] 129 false 1), (3034, .row [(.int .i64 0), (.int .i64 1)] 3 true 1), (3036, .row [(.int .i64 1)] 3 true 1), (3037, .map [] 3), (3038, .map [] 3), (3039, .row [(.slice (some (9671, 0)) 0 0), (.int .i64 2), (.int .i64 2), (.int .i64 1000), (.int .i64 3), (.int .i64 3), (.map (some 3037)), (.rest 9948), (.map (some 3038)), (.int .i64 0)] 226 false 1), (3040, .row [(.int .i64 1), (.int .i64 3), (.int .i64 0), (.ptr (some (3039, 0))), (.slice (some (9945, 0)) 3 3)] 129 false 1), (3044, .row [(.int .i64 2)] 3 true 1), (3047, .map [] 2), (3048, .map [] 2), (3049, .row [(.slice (some (9867, 0)) 0 0), (.int .i64 2), (.int .i64 1), (.int .i64 1000), (.int .i64 2), (.int .i64 2), (.map (some 3047)), (.slice (some (9989, 0)) 1 1), (.map (some 3048)), (.int .i64 1)] 226 false 1), (3050, .row [(.int .i64 2), (.int .i64 3), (.int .i64 0), (.ptr (some (3049, 0))), (.slice (some (9986, 0)) 2 2)] 129 false 1), (3052, .row [(.ptr (some (3020, 0))), (.ptr (some (3030, 0))), (.ptr (some (3040, 0))), (.ptr (some (3050, 0)))] 126 true 1), (3054, .row [(.int .i64 3)] 3 true 1), (3056, .row [(.int .i64 2), (.int .i64 3)] 3 true 1), (3058, .map [] 0), (3059, .row [(.slice (some (3062, 0)) 1 1), (.iface 419 (.agg [])), (.int .i64 0), (.int .i64 2), (.map (some 3058))] 418 false 1), (3060, .row [(.int .i64 2), (.bool false), (.slice none 0 0), (.bool false), (.bool false)] 422 false 1), (3062, .row [(.ptr (some (3060, 0)))] 420 true 1), (3064, .row [(.int .i64 1000000000001)] 3 false 1), (3065, .map [] 0), (3066, .row [(.slice (some (3069, 0)) 1 1), (.iface 419 (.agg [])), (.int .i64 0), (.int .i64 2), (.map (some 3065))] 418 false 1), (3067, .row [(.int .i64 2), (.bool false), (.slice none 0 0), (.bool false), (.bool false)] 422 false 1), (3069, .row [(.ptr (some (3067, 0)))] 420 true 1), (3071, .row [(.int .i64 1000000000001)] 3 false 1)] ++ [(3072, .map [] 0), (3073, .row [(.slice (some (3079, 0)) 2 2), (.iface 419 (.agg [])), (.int .i64 2), (.int .i64 0), (.map (some 3072))] 418 false 1), (3074, .row [(.int .i64 2), (.bool false), (.slice none 0 0), (.bool true), (.bool false)] 422 false 1), (3077, .row [(.int .i64 0), (.bool false), (.slice none 0 0), (.bool false), (.bool false)] 422 false 1), (3079, .row [(.ptr (some (3074, 0))), (.ptr (some (3077, 0)))] 420 true 1), (3081, .row [(.int .i64 1000000000001), (.int .i64 1000000000001)] 3 false 1), (3082, .map [⟨(.int .i64 0), (.ptr (some (3257, 0))), 0⟩] 1), (3083, .map [⟨(.int .i64 0), (.slice none 0 0), 0⟩] 1), (3084, .map [⟨(.int .i64 0), (.slice (some (5965, 0)) 2 2), 0⟩] 1)] ++ c62 ++ c103 ++ c104 ++ c80 ++ c81 ++ c182 ++ c83 ++ c153 ++ c85 ++ c209 ++ c203 ++ c73 ++ c106 ++ c155 ++ c183 ++ c204 ++ c211 ++ c231 ++ c232 ++ c216 ++ c225 ++ c233 ++ c220 ++ c221 ++ c226 ++ c248 ++ c234 ++ c235 ++ c236 ++ c238 ++ c240
  v := (.tuple [(.bool true), (.int .i64 0)])
  m := 10286
  fin := c251 ++ c252 ++ [(3049, some (.row [(.slice (some (9867, 0)) 0 0), (.int .i64 2), (.int .i64 2), (.int .i64 1000), (.int .i64 2), (.int .i64 2), (.map (some 3047)), (.rest 9989), (.map (some 3048)), (.int .i64 0)] 226 false 1))] ++ c259 ++ c253 ++ c254 ++ c255 ++ c256 ++ c260 ++ c257 ++ c258

def m119 : Ev.Note where
  f := 37
  args := [(.ptr (some (347, 0)))]
  n := 9357
  old := c7 ++ c8 ++ c74 ++ c5 ++ c212 ++ c213 ++ c202 ++ c56 ++ c116 ++ c181 ++ [(3009, .row [(.int .i64 3)] 3 true 1), (3011, .row [(.int .i64 3), (.int .i64 2), (.int .i64 0), (.slice (some (3056, 0)) 2 2), (.slice none 0 0), (.int .i64 1000000000001), (.ptr (some (3073, 0))), (.ptr (some (4680, 0))), (.slice (some (3081, 0)) 2 2), (.ptr (some (4786, 0)))] 246 false 1), (3013, .row [(.iface 178 (.ptr (some (2854, 0)))), (.iface 241 (.ptr (some (2929, 0)))), (.iface 241 (.ptr (some (2936, 0)))), (.iface 241 (.ptr (some (3011, 0))))] 170 true 1), (3017, .map [] 2), (3018, .map [] 2), (3019, .row [(.slice (some (9334, 0)) 1 1), (.int .i64 2), (.int .i64 2), (.int .i64 1000), (.int .i64 2), (.int .i64 2), (.map (some 3017)), (.rest 7035), (.map (some 3018)), (.int .i64 1)] 226 false 1), (3020, .row [(.int .i64 0), (.int .i64 1), (.int .i64 0), (.ptr (some (3019, 0))), (.slice (some (7023, 0)) 2 2)] 129 false 1)] ++ [(3026, .row [(.int .i64 0)] 3 true 1), (3027, .map [] 2), (3028, .map [] 2), (3029, .row [(.slice (some (9342, 0)) 1 1), (.int .i64 2), (.int .i64 2), (.int .i64 1000), (.int .i64 2), (.int .i64 2), (.map (some 3027)), (.rest 7161), (.map (some 3028)), (.int .i64 1)] 226 false 1), (3030, .row [(.int .i64 0), (.int .i64 2), (.int .i64 0), (.ptr (some (3029, 0))), (.slice (some (7155, 0)) 2 2)] 129 false 1), (3034, .row [(.int .i64 0), (.int .i64 1)] 3 true 1), (3036, .row [(.int .i64 1)] 3 true 1), (3037, .map [] 2), (3038, .map [] 2), (3039, .row [(.slice (some (8582, 0)) 0 0), (.int .i64 2), (.int .i64 2), (.int .i64 1000), (.int .i64 2), (.int .i64 2), (.map (some 3037)), (.rest 8894), (.map (some 3038)), (.int .i64 0)] 226 false 1), (3040, .row [(.int .i64 1), (.int .i64 3), (.int .i64 0), (.ptr (some (3039, 0))), (.slice (some (8888, 0)) 2 2)] 129 false 1), (3044, .row [(.int .i64 2)] 3 true 1), (3047, .map [] 1), (3048, .map [] 1), (3049, .row [(.slice (some (7690, 0)) 0 0), (.int .i64 2), (.int .i64 2), (.int .i64 1000), (.int .i64 1), (.int .i64 1), (.map (some 3047)), (.rest 8124), (.map (some 3048)), (.int .i64 0)] 226 false 1), (3050, .row [(.int .i64 2), (.int .i64 3), (.int .i64 0), (.ptr (some (3049, 0))), (.slice (some (8118, 0)) 1 1)] 129 false 1), (3052, .row [(.ptr (some (3020, 0))), (.ptr (some (3030, 0))), (.ptr (some (3040, 0))), (.ptr (some (3050, 0)))] 126 true 1), (3054, .row [(.int .i64 3)] 3 true 1), (3056, .row [(.int .i64 2), (.int .i64 3)] 3 true 1), (3058, .map [] 0), (3059, .row [(.slice (some (3062, 0)) 1 1), (.iface 419 (.agg [])), (.int .i64 0), (.int .i64 0), (.map (some 3058))] 418 false 1), (3060, .row [(.int .i64 0), (.bool false), (.slice none 0 0), (.bool false), (.bool false)] 422 false 1), (3062, .row [(.ptr (some (3060, 0)))] 420 true 1), (3064, .row [(.int .i64 1000000000001)] 3 false 1), (3065, .map [] 0), (3066, .row [(.slice (some (3069, 0)) 1 1), (.iface 419 (.agg [])), (.int .i64 0), (.int .i64 0), (.map (some 3065))] 418 false 1), (3067, .row [(.int .i64 0), (.bool false), (.slice none 0 0), (.bool false), (.bool false)] 422 false 1), (3069, .row [(.ptr (some (3067, 0)))] 420 true 1), (3071, .row [(.int .i64 1000000000001)] 3 false 1)] ++ c208 ++ c62 ++ c103 ++ c104 ++ c80 ++ c81 ++ c182 ++ c83 ++ c153 ++ c85 ++ c209 ++ c203 ++ c73 ++ c96 ++ c97 ++ c146 ++ c140 ++ c106 ++ c118 ++ c119 ++ c173 ++ c123 ++ c154 ++ c131 ++ c155 ++ c193 ++ c174 ++ c183 ++ c184 ++ c210 ++ c197 ++ c204 ++ c211 ++ c214 ++ c215 ++ c216
  v := (.tuple [(.int .i64 12), (.int .i64 0)])
  m := 10315
  fin := c251 ++ c252 ++ [(3017, some (.map [] 3)), (3018, some (.map [] 3)), (3019, some (.row [(.slice (some (9334, 0)) 0 0), (.int .i64 2), (.int .i64 2), (.int .i64 1000), (.int .i64 3), (.int .i64 3), (.map (some 3017)), (.rest 9471), (.map (some 3018)), (.int .i64 0)] 226 false 1)), (3020, some (.row [(.int .i64 0), (.int .i64 1), (.int .i64 0), (.ptr (some (3019, 0))), (.slice (some (9468, 0)) 3 3)] 129 false 1))] ++ [(3027, some (.map [] 3)), (3028, some (.map [] 3)), (3029, some (.row [(.slice (some (9342, 0)) 0 0), (.int .i64 2), (.int .i64 2), (.int .i64 1000), (.int .i64 3), (.int .i64 3), (.map (some 3027)), (.rest 9512), (.map (some 3028)), (.int .i64 0)] 226 false 1)), (3030, some (.row [(.int .i64 0), (.int .i64 2), (.int .i64 0), (.ptr (some (3029, 0))), (.slice (some (9509, 0)) 3 3)] 129 false 1)), (3037, some (.map [] 3)), (3038, some (.map [] 3)), (3039, some (.row [(.slice (some (9671, 0)) 0 0), (.int .i64 2), (.int .i64 2), (.int .i64 1000), (.int .i64 3), (.int .i64 3), (.map (some 3037)), (.rest 9948), (.map (some 3038)), (.int .i64 0)] 226 false 1)), (3040, some (.row [(.int .i64 1), (.int .i64 3), (.int .i64 0), (.ptr (some (3039, 0))), (.slice (some (9945, 0)) 3 3)] 129 false 1)), (3047, some (.map [] 2)), (3048, some (.map [] 2)), (3049, some (.row [(.slice (some (9867, 0)) 0 0), (.int .i64 2), (.int .i64 2), (.int .i64 1000), (.int .i64 2), (.int .i64 2), (.map (some 3047)), (.rest 9989), (.map (some 3048)), (.int .i64 0)] 226 false 1)), (3050, some (.row [(.int .i64 2), (.int .i64 3), (.int .i64 0), (.ptr (some (3049, 0))), (.slice (some (9986, 0)) 2 2)] 129 false 1)), (3059, some (.row [(.slice (some (3062, 0)) 1 1), (.iface 419 (.agg [])), (.int .i64 0), (.int .i64 2), (.map (some 3058))] 418 false 1)), (3060, some (.row [(.int .i64 2), (.bool false), (.slice none 0 0), (.bool false), (.bool false)] 422 false 1)), (3066, some (.row [(.slice (some (3069, 0)) 1 1), (.iface 419 (.agg [])), (.int .i64 0), (.int .i64 2), (.map (some 3065))] 418 false 1)), (3067, some (.row [(.int .i64 2), (.bool false), (.slice none 0 0), (.bool false), (.bool false)] 422 false 1))] ++ c259 ++ c253 ++ [(7023, none), (7035, none)] ++ [(7155, none), (7161, none)] ++ [(8118, none), (8124, none)] ++ [(8888, none), (8894, none)] ++ c254 ++ c255 ++ c256 ++ c222 ++ c228 ++ c219 ++ [(9509, some (.row [(.int .i64 1), (.int .i64 0), (.int .i64 2)] 3 true 1)), (9512, some (.win [(.int .i64 3), (.int .i64 2), (.int .i64 0), (.slice none 0 0), (.int .i64 0), (.ptr (some (9427, 0)))] 258 6))] ++ c223 ++ c241 ++ c229 ++ c230 ++ c260 ++ c237 ++ c239 ++ c257 ++ c258

def m120 : Ev.Note where
  f := 169
  args := [(.func (.func 346) [] [(.ptr (some (10386, 0)))])]
  n := 10387
  old := [(562, .map [⟨(.str [112, 48, 95, 49]), (.ptr (some (9090, 0))), 0⟩, ⟨(.str [112, 48, 95, 50]), (.ptr (some (10183, 0))), 1⟩] 2)] ++ c245 ++ [(10183, .row [(.int .i64 3), (.slice (some (10189, 0)) 1 1), (.int .i64 0)] 283 false 1), (10187, .row [(.int .i64 1), (.int .i64 0), (.str []), (.int .i64 1), (.int .i64 10), (.str []), (.int .i64 1), (.int .i64 2), (.str [])] 51 true 3), (10189, .row [(.int .i64 9), (.slice (some (10187, 0)) 3 3), (.int .i64 1)] 193 true 3)] ++ [(10386, .row [(.map (some 562))] 235 false 1)]
  v := (.slice (some (10394, 0)) 2 2)
  m := 10395
  fin := [(10394, some (.row [(.str [112, 48, 95, 49]), (.str [112, 48, 95, 50])] 9 true 1))]

def m121 : Ev.Note where
  f := 8
  args := [(.ptr (some (347, 0))), (.str [111, 117, 116])]
  n := 10315
  old := c7 ++ c8 ++ c74 ++ c5 ++ [(336, .row [(.int .i64 0)] 3 true 1), (338, .row [(.int .i64 1), (.int .i64 0)] 141 true 2), (340, .row [(.str [110])] 9 true 1), (342, .row [(.int .i64 1)] 3 true 1), (343, .map [⟨(.int .i64 2), (.ptr (some (563, 0))), 0⟩] 1), (344, .map [⟨(.int .i64 2), (.ptr (some (9220, 0))), 0⟩] 1), (345, .map [⟨(.int .i64 0), (.slice none 0 0), 0⟩] 1), (346, .map [⟨(.int .i64 1), (.agg [(.int .i64 0), (.int .i64 0)]), 0⟩, ⟨(.int .i64 2), (.agg [(.int .i64 0), (.int .i64 0)]), 1⟩] 2), (347, .row [(.slice (some (332, 0)) 3 3), (.int .i64 2), (.int .i64 1), (.int .i64 4), (.bool true), (.int .i64 1), (.int .i64 2), (.int .i64 2), (.ptr (some (487, 0))), (.map (some 3082)), (.map (some 94)), (.bool true), (.map (some 343)), (.slice (some (3013, 0)) 4 4), (.map (some 2773)), (.map (some 2774)), (.slice (some (3052, 0)) 4 4), (.map (some 344)), (.map (some 3083)), (.map (some 3084)), (.map (some 345)), (.slice (some (3160, 0)) 1 1), (.map (some 346)), (.int .i64 1), (.bool true), (.bool false)] 91 false 1)] ++ c213 ++ c242 ++ c56 ++ c116 ++ c181 ++ c224 ++ c243 ++ c244 ++ c62 ++ c103 ++ c104 ++ c80 ++ c81 ++ c182 ++ c83 ++ c153 ++ c85 ++ c209 ++ [(4786, .row [(.ptr (some (563, 0))), (.int .i64 0), (.int .i64 2), (.bool true), (.str []), (.slice none 0 0), (.slice none 0 0)] 376 false 1)] ++ c73 ++ c106 ++ c155 ++ c183 ++ c245 ++ c211 ++ c246 ++ c247 ++ c216 ++ c225 ++ c233 ++ c220 ++ c221 ++ c226 ++ c248 ++ c234 ++ c235 ++ c249 ++ c238 ++ c240 ++ c250 ++ [(10183, .row [(.int .i64 3), (.slice (some (10189, 0)) 1 1), (.int .i64 0)] 283 false 1), (10187, .row [(.int .i64 1), (.int .i64 0), (.str []), (.int .i64 1), (.int .i64 10), (.str []), (.int .i64 1), (.int .i64 2), (.str [])] 51 true 3), (10189, .row [(.int .i64 9), (.slice (some (10187, 0)) 3 3), (.int .i64 1)] 193 true 3), (10198, .row [(.str [112, 48, 95, 50])] 9 true 1), (10202, .row [(.str []), (.slice none 0 0)] 374 false 1)]
  v := (.tuple [(.slice (some (10432, 0)) 1 1), (.int .i64 0)])
  m := 10440
  fin := [(10430, some (.row [(.int .i64 1), (.int .i64 0), (.str []), (.int .i64 1), (.int .i64 10), (.str []), (.int .i64 1), (.int .i64 2), (.str [])] 51 true 3)), (10432, some (.row [(.slice (some (10430, 0)) 3 3), (.int .i64 1)] 67 true 2))]

end Go.Proofs.YtgfbjbdfckgdjaaGreatDoor
