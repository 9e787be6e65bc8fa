/-
  Part 7 of what LFnGroups leans on: its texts, merged by a program (prune.py), with what it needs alone.
-/
import Derived.Test.YtmgdkkhnjkepiaaQ6
namespace Go.Proofs.Ytmgdkkhnjkepiaa.BX
set_option linter.unusedSectionVars false
set_option linter.unusedSimpArgs false
set_option linter.unusedVariables false
open Go Go.RowKit
set_option maxRecDepth 20000
set_option maxHeartbeats 4000000
def sets7 : List DN := [([false,false,false,false,false,false,false,false,false,false,false,false,false,false], [(0, [true,false,false,false,false,false,false,false,false,false,false,false,false,false], false), (2, [false,false,true,false,false,false,false,false,false,false,false,false,false,false], false), (3, [false,false,false,true,false,false,false,false,false,false,false,false,false,false], false), (4, [false,false,false,false,true,false,false,false,false,false,false,false,false,false], false), (6, [false,false,false,false,false,false,true,false,false,false,false,false,false,false], false)]),
  ([true,false,false,false,false,false,false,false,false,false,false,false,false,false], [(1, [true,true,false,false,false,false,false,false,false,false,false,false,false,false], false), (2, [true,false,true,false,false,false,false,false,false,false,false,false,false,false], false), (3, [true,false,false,true,false,false,false,false,false,false,false,false,false,false], false), (4, [true,false,false,false,true,false,false,false,false,false,false,false,false,false], false), (6, [true,false,false,false,false,false,true,false,false,false,false,false,false,false], false)]),
  ([false,false,true,false,false,false,false,false,false,false,false,false,false,false], [(0, [true,false,true,false,false,false,false,false,false,false,false,false,false,false], false), (3, [false,false,true,true,false,false,false,false,false,false,false,false,false,false], false), (4, [false,false,true,false,true,false,false,false,false,false,false,false,false,false], false), (6, [false,false,true,false,false,false,true,false,false,false,false,false,false,false], false)]),
  ([false,false,false,true,false,false,false,false,false,false,false,false,false,false], [(0, [true,false,false,true,false,false,false,false,false,false,false,false,false,false], false), (2, [false,false,true,true,false,false,false,false,false,false,false,false,false,false], false), (4, [false,false,false,true,true,false,false,false,false,false,false,false,false,false], false), (6, [false,false,false,true,false,false,true,false,false,false,false,false,false,false], false)]),
  ([false,false,false,false,true,false,false,false,false,false,false,false,false,false], [(0, [true,false,false,false,true,false,false,false,false,false,false,false,false,false], false), (2, [false,false,true,false,true,false,false,false,false,false,false,false,false,false], false), (3, [false,false,false,true,true,false,false,false,false,false,false,false,false,false], false), (5, [false,false,false,false,true,true,false,false,false,false,false,false,false,false], false), (6, [false,false,false,false,true,false,true,false,false,false,false,false,false,false], false)]),
  ([false,false,false,false,false,false,true,false,false,false,false,false,false,false], [(0, [true,false,false,false,false,false,true,false,false,false,false,false,false,false], false), (2, [false,false,true,false,false,false,true,false,false,false,false,false,false,false], false), (3, [false,false,false,true,false,false,true,false,false,false,false,false,false,false], false), (4, [false,false,false,false,true,false,true,false,false,false,false,false,false,false], false)]),
  ([true,true,false,false,false,false,false,false,false,false,false,false,false,false], [(2, [true,true,true,false,false,false,false,false,false,false,false,false,false,false], false), (3, [true,true,false,true,false,false,false,false,false,false,false,false,false,false], false), (4, [true,true,false,false,true,false,false,false,false,false,false,false,false,false], false), (6, [true,true,false,false,false,false,true,false,false,false,false,false,false,false], false)]),
  ([true,false,true,false,false,false,false,false,false,false,false,false,false,false], [(1, [true,true,true,false,false,false,false,false,false,false,false,false,false,false], false), (3, [true,false,true,true,false,false,false,false,false,false,false,false,false,false], false), (4, [true,false,true,false,true,false,false,false,false,false,false,false,false,false], false), (6, [true,false,true,false,false,false,true,false,false,false,false,false,false,false], false)]),
  ([true,false,false,true,false,false,false,false,false,false,false,false,false,false], [(1, [true,true,false,true,false,false,false,false,false,false,false,false,false,false], false), (2, [true,false,true,true,false,false,false,false,false,false,false,false,false,false], false), (4, [true,false,false,true,true,false,false,false,false,false,false,false,false,false], false), (6, [true,false,false,true,false,false,true,false,false,false,false,false,false,false], false)]),
  ([true,false,false,false,true,false,false,false,false,false,false,false,false,false], [(1, [true,true,false,false,true,false,false,false,false,false,false,false,false,false], false), (2, [true,false,true,false,true,false,false,false,false,false,false,false,false,false], false), (3, [true,false,false,true,true,false,false,false,false,false,false,false,false,false], false), (5, [true,false,false,false,true,true,false,false,false,false,false,false,false,false], false), (6, [true,false,false,false,true,false,true,false,false,false,false,false,false,false], false)]),
  ([true,false,false,false,false,false,true,false,false,false,false,false,false,false], [(1, [true,true,false,false,false,false,true,false,false,false,false,false,false,false], false), (2, [true,false,true,false,false,false,true,false,false,false,false,false,false,false], false), (3, [true,false,false,true,false,false,true,false,false,false,false,false,false,false], false), (4, [true,false,false,false,true,false,true,false,false,false,false,false,false,false], false)]),
  ([false,false,true,true,false,false,false,false,false,false,false,false,false,false], [(0, [true,false,true,true,false,false,false,false,false,false,false,false,false,false], false), (4, [false,false,true,true,true,false,false,false,false,false,false,false,false,false], false), (6, [false,false,true,true,false,false,true,false,false,false,false,false,false,false], false)]),
  ([false,false,true,false,true,false,false,false,false,false,false,false,false,false], [(0, [true,false,true,false,true,false,false,false,false,false,false,false,false,false], false), (3, [false,false,true,true,true,false,false,false,false,false,false,false,false,false], false), (5, [false,false,true,false,true,true,false,false,false,false,false,false,false,false], false), (6, [false,false,true,false,true,false,true,false,false,false,false,false,false,false], false)]),
  ([false,false,true,false,false,false,true,false,false,false,false,false,false,false], [(0, [true,false,true,false,false,false,true,false,false,false,false,false,false,false], false), (3, [false,false,true,true,false,false,true,false,false,false,false,false,false,false], false), (4, [false,false,true,false,true,false,true,false,false,false,false,false,false,false], false)]),
  ([false,false,false,true,true,false,false,false,false,false,false,false,false,false], [(0, [true,false,false,true,true,false,false,false,false,false,false,false,false,false], false), (2, [false,false,true,true,true,false,false,false,false,false,false,false,false,false], false), (5, [false,false,false,true,true,true,false,false,false,false,false,false,false,false], false), (6, [false,false,false,true,true,false,true,false,false,false,false,false,false,false], false)]),
  ([false,false,false,true,false,false,true,false,false,false,false,false,false,false], [(0, [true,false,false,true,false,false,true,false,false,false,false,false,false,false], false), (2, [false,false,true,true,false,false,true,false,false,false,false,false,false,false], false), (4, [false,false,false,true,true,false,true,false,false,false,false,false,false,false], false)]),
  ([false,false,false,false,true,true,false,false,false,false,false,false,false,false], [(0, [true,false,false,false,true,true,false,false,false,false,false,false,false,false], false), (2, [false,false,true,false,true,true,false,false,false,false,false,false,false,false], false), (3, [false,false,false,true,true,true,false,false,false,false,false,false,false,false], false), (6, [false,false,false,false,true,true,true,false,false,false,false,false,false,false], false)]),
  ([false,false,false,false,true,false,true,false,false,false,false,false,false,false], [(0, [true,false,false,false,true,false,true,false,false,false,false,false,false,false], false), (2, [false,false,true,false,true,false,true,false,false,false,false,false,false,false], false), (3, [false,false,false,true,true,false,true,false,false,false,false,false,false,false], false), (5, [false,false,false,false,true,true,true,false,false,false,false,false,false,false], false)]),
  ([true,true,true,false,false,false,false,false,false,false,false,false,false,false], [(3, [true,true,true,true,false,false,false,false,false,false,false,false,false,false], false), (4, [true,true,true,false,true,false,false,false,false,false,false,false,false,false], false), (6, [true,true,true,false,false,false,true,false,false,false,false,false,false,false], false)]),
  ([true,true,false,true,false,false,false,false,false,false,false,false,false,false], [(2, [true,true,true,true,false,false,false,false,false,false,false,false,false,false], false), (4, [true,true,false,true,true,false,false,false,false,false,false,false,false,false], false), (6, [true,true,false,true,false,false,true,false,false,false,false,false,false,false], false)]),
  ([true,true,false,false,true,false,false,false,false,false,false,false,false,false], [(2, [true,true,true,false,true,false,false,false,false,false,false,false,false,false], false), (3, [true,true,false,true,true,false,false,false,false,false,false,false,false,false], false), (5, [true,true,false,false,true,true,false,false,false,false,false,false,false,false], false), (6, [true,true,false,false,true,false,true,false,false,false,false,false,false,false], false)]),
  ([true,true,false,false,false,false,true,false,false,false,false,false,false,false], [(2, [true,true,true,false,false,false,true,false,false,false,false,false,false,false], false), (3, [true,true,false,true,false,false,true,false,false,false,false,false,false,false], false), (4, [true,true,false,false,true,false,true,false,false,false,false,false,false,false], false)]),
  ([true,false,true,true,false,false,false,false,false,false,false,false,false,false], [(1, [true,true,true,true,false,false,false,false,false,false,false,false,false,false], false), (4, [true,false,true,true,true,false,false,false,false,false,false,false,false,false], false), (6, [true,false,true,true,false,false,true,false,false,false,false,false,false,false], false)]),
  ([true,false,true,false,true,false,false,false,false,false,false,false,false,false], [(1, [true,true,true,false,true,false,false,false,false,false,false,false,false,false], false), (3, [true,false,true,true,true,false,false,false,false,false,false,false,false,false], false), (5, [true,false,true,false,true,true,false,false,false,false,false,false,false,false], false), (6, [true,false,true,false,true,false,true,false,false,false,false,false,false,false], false)]),
  ([true,false,true,false,false,false,true,false,false,false,false,false,false,false], [(1, [true,true,true,false,false,false,true,false,false,false,false,false,false,false], false), (3, [true,false,true,true,false,false,true,false,false,false,false,false,false,false], false), (4, [true,false,true,false,true,false,true,false,false,false,false,false,false,false], false)]),
  ([true,false,false,true,true,false,false,false,false,false,false,false,false,false], [(1, [true,true,false,true,true,false,false,false,false,false,false,false,false,false], false), (2, [true,false,true,true,true,false,false,false,false,false,false,false,false,false], false), (5, [true,false,false,true,true,true,false,false,false,false,false,false,false,false], false), (6, [true,false,false,true,true,false,true,false,false,false,false,false,false,false], false)]),
  ([true,false,false,true,false,false,true,false,false,false,false,false,false,false], [(1, [true,true,false,true,false,false,true,false,false,false,false,false,false,false], false), (2, [true,false,true,true,false,false,true,false,false,false,false,false,false,false], false), (4, [true,false,false,true,true,false,true,false,false,false,false,false,false,false], false)]),
  ([true,false,false,false,true,true,false,false,false,false,false,false,false,false], [(1, [true,true,false,false,true,true,false,false,false,false,false,false,false,false], false), (2, [true,false,true,false,true,true,false,false,false,false,false,false,false,false], false), (3, [true,false,false,true,true,true,false,false,false,false,false,false,false,false], false), (6, [true,false,false,false,true,true,true,false,false,false,false,false,false,false], false)]),
  ([true,false,false,false,true,false,true,false,false,false,false,false,false,false], [(1, [true,true,false,false,true,false,true,false,false,false,false,false,false,false], false), (2, [true,false,true,false,true,false,true,false,false,false,false,false,false,false], false), (3, [true,false,false,true,true,false,true,false,false,false,false,false,false,false], false), (5, [true,false,false,false,true,true,true,false,false,false,false,false,false,false], false)]),
  ([false,false,true,true,true,false,false,false,false,false,false,false,false,false], [(0, [true,false,true,true,true,false,false,false,false,false,false,false,false,false], false), (5, [false,false,true,true,true,true,false,false,false,false,false,false,false,false], false), (6, [false,false,true,true,true,false,true,false,false,false,false,false,false,false], false)]),
  ([false,false,true,true,false,false,true,false,false,false,false,false,false,false], [(0, [true,false,true,true,false,false,true,false,false,false,false,false,false,false], false), (4, [false,false,true,true,true,false,true,false,false,false,false,false,false,false], false)]),
  ([false,false,true,false,true,true,false,false,false,false,false,false,false,false], [(0, [true,false,true,false,true,true,false,false,false,false,false,false,false,false], false), (3, [false,false,true,true,true,true,false,false,false,false,false,false,false,false], false), (6, [false,false,true,false,true,true,true,false,false,false,false,false,false,false], false)]),
  ([false,false,true,false,true,false,true,false,false,false,false,false,false,false], [(0, [true,false,true,false,true,false,true,false,false,false,false,false,false,false], false), (3, [false,false,true,true,true,false,true,false,false,false,false,false,false,false], false), (5, [false,false,true,false,true,true,true,false,false,false,false,false,false,false], false)]),
  ([false,false,false,true,true,true,false,false,false,false,false,false,false,false], [(0, [true,false,false,true,true,true,false,false,false,false,false,false,false,false], false), (2, [false,false,true,true,true,true,false,false,false,false,false,false,false,false], false), (6, [false,false,false,true,true,true,true,false,false,false,false,false,false,false], false)]),
  ([false,false,false,true,true,false,true,false,false,false,false,false,false,false], [(0, [true,false,false,true,true,false,true,false,false,false,false,false,false,false], false), (2, [false,false,true,true,true,false,true,false,false,false,false,false,false,false], false), (5, [false,false,false,true,true,true,true,false,false,false,false,false,false,false], false)]),
  ([false,false,false,false,true,true,true,false,false,false,false,false,false,false], [(0, [true,false,false,false,true,true,true,false,false,false,false,false,false,false], false), (2, [false,false,true,false,true,true,true,false,false,false,false,false,false,false], false), (3, [false,false,false,true,true,true,true,false,false,false,false,false,false,false], false), (7, [false,false,false,false,true,true,true,true,false,false,false,false,false,false], false)]),
  ([true,true,true,true,false,false,false,false,false,false,false,false,false,false], [(4, [true,true,true,true,true,false,false,false,false,false,false,false,false,false], false), (6, [true,true,true,true,false,false,true,false,false,false,false,false,false,false], false)]),
  ([true,true,true,false,true,false,false,false,false,false,false,false,false,false], [(3, [true,true,true,true,true,false,false,false,false,false,false,false,false,false], false), (5, [true,true,true,false,true,true,false,false,false,false,false,false,false,false], false), (6, [true,true,true,false,true,false,true,false,false,false,false,false,false,false], false)]),
  ([true,true,true,false,false,false,true,false,false,false,false,false,false,false], [(3, [true,true,true,true,false,false,true,false,false,false,false,false,false,false], false), (4, [true,true,true,false,true,false,true,false,false,false,false,false,false,false], false)]),
  ([true,true,false,true,true,false,false,false,false,false,false,false,false,false], [(2, [true,true,true,true,true,false,false,false,false,false,false,false,false,false], false), (5, [true,true,false,true,true,true,false,false,false,false,false,false,false,false], false), (6, [true,true,false,true,true,false,true,false,false,false,false,false,false,false], false)]),
  ([true,true,false,true,false,false,true,false,false,false,false,false,false,false], [(2, [true,true,true,true,false,false,true,false,false,false,false,false,false,false], false), (4, [true,true,false,true,true,false,true,false,false,false,false,false,false,false], false)]),
  ([true,true,false,false,true,true,false,false,false,false,false,false,false,false], [(2, [true,true,true,false,true,true,false,false,false,false,false,false,false,false], false), (3, [true,true,false,true,true,true,false,false,false,false,false,false,false,false], false), (6, [true,true,false,false,true,true,true,false,false,false,false,false,false,false], false)]),
  ([true,true,false,false,true,false,true,false,false,false,false,false,false,false], [(2, [true,true,true,false,true,false,true,false,false,false,false,false,false,false], false), (3, [true,true,false,true,true,false,true,false,false,false,false,false,false,false], false), (5, [true,true,false,false,true,true,true,false,false,false,false,false,false,false], false)]),
  ([true,false,true,true,true,false,false,false,false,false,false,false,false,false], [(1, [true,true,true,true,true,false,false,false,false,false,false,false,false,false], false), (5, [true,false,true,true,true,true,false,false,false,false,false,false,false,false], false), (6, [true,false,true,true,true,false,true,false,false,false,false,false,false,false], false)]),
  ([true,false,true,true,false,false,true,false,false,false,false,false,false,false], [(1, [true,true,true,true,false,false,true,false,false,false,false,false,false,false], false), (4, [true,false,true,true,true,false,true,false,false,false,false,false,false,false], false)]),
  ([true,false,true,false,true,true,false,false,false,false,false,false,false,false], [(1, [true,true,true,false,true,true,false,false,false,false,false,false,false,false], false), (3, [true,false,true,true,true,true,false,false,false,false,false,false,false,false], false), (6, [true,false,true,false,true,true,true,false,false,false,false,false,false,false], false)]),
  ([true,false,true,false,true,false,true,false,false,false,false,false,false,false], [(1, [true,true,true,false,true,false,true,false,false,false,false,false,false,false], false), (3, [true,false,true,true,true,false,true,false,false,false,false,false,false,false], false), (5, [true,false,true,false,true,true,true,false,false,false,false,false,false,false], false)]),
  ([true,false,false,true,true,true,false,false,false,false,false,false,false,false], [(1, [true,true,false,true,true,true,false,false,false,false,false,false,false,false], false), (2, [true,false,true,true,true,true,false,false,false,false,false,false,false,false], false), (6, [true,false,false,true,true,true,true,false,false,false,false,false,false,false], false)]),
  ([true,false,false,true,true,false,true,false,false,false,false,false,false,false], [(1, [true,true,false,true,true,false,true,false,false,false,false,false,false,false], false), (2, [true,false,true,true,true,false,true,false,false,false,false,false,false,false], false), (5, [true,false,false,true,true,true,true,false,false,false,false,false,false,false], false)]),
  ([true,false,false,false,true,true,true,false,false,false,false,false,false,false], [(1, [true,true,false,false,true,true,true,false,false,false,false,false,false,false], false), (2, [true,false,true,false,true,true,true,false,false,false,false,false,false,false], false), (3, [true,false,false,true,true,true,true,false,false,false,false,false,false,false], false), (7, [true,false,false,false,true,true,true,true,false,false,false,false,false,false], false)]),
  ([false,false,true,true,true,true,false,false,false,false,false,false,false,false], [(0, [true,false,true,true,true,true,false,false,false,false,false,false,false,false], false), (6, [false,false,true,true,true,true,true,false,false,false,false,false,false,false], false)]),
  ([false,false,true,true,true,false,true,false,false,false,false,false,false,false], [(0, [true,false,true,true,true,false,true,false,false,false,false,false,false,false], false), (5, [false,false,true,true,true,true,true,false,false,false,false,false,false,false], false)]),
  ([false,false,true,false,true,true,true,false,false,false,false,false,false,false], [(0, [true,false,true,false,true,true,true,false,false,false,false,false,false,false], false), (3, [false,false,true,true,true,true,true,false,false,false,false,false,false,false], false), (7, [false,false,true,false,true,true,true,true,false,false,false,false,false,false], false)]),
  ([false,false,false,true,true,true,true,false,false,false,false,false,false,false], [(0, [true,false,false,true,true,true,true,false,false,false,false,false,false,false], false), (2, [false,false,true,true,true,true,true,false,false,false,false,false,false,false], false), (7, [false,false,false,true,true,true,true,true,false,false,false,false,false,false], false)]),
  ([false,false,false,false,true,true,true,true,false,false,false,false,false,false], [(0, [true,false,false,false,true,true,true,true,false,false,false,false,false,false], false), (2, [false,false,true,false,true,true,true,true,false,false,false,false,false,false], false), (3, [false,false,false,true,true,true,true,true,false,false,false,false,false,false], false), (8, [false,false,false,false,true,true,true,true,true,false,false,false,false,false], false)]),
  ([true,true,true,true,true,false,false,false,false,false,false,false,false,false], [(5, [true,true,true,true,true,true,false,false,false,false,false,false,false,false], false), (6, [true,true,true,true,true,false,true,false,false,false,false,false,false,false], false)]),
  ([true,true,true,true,false,false,true,false,false,false,false,false,false,false], [(4, [true,true,true,true,true,false,true,false,false,false,false,false,false,false], false)]),
  ([true,true,true,false,true,true,false,false,false,false,false,false,false,false], [(3, [true,true,true,true,true,true,false,false,false,false,false,false,false,false], false), (6, [true,true,true,false,true,true,true,false,false,false,false,false,false,false], false)]),
  ([true,true,true,false,true,false,true,false,false,false,false,false,false,false], [(3, [true,true,true,true,true,false,true,false,false,false,false,false,false,false], false), (5, [true,true,true,false,true,true,true,false,false,false,false,false,false,false], false)]),
  ([true,true,false,true,true,true,false,false,false,false,false,false,false,false], [(2, [true,true,true,true,true,true,false,false,false,false,false,false,false,false], false), (6, [true,true,false,true,true,true,true,false,false,false,false,false,false,false], false)]),
  ([true,true,false,true,true,false,true,false,false,false,false,false,false,false], [(2, [true,true,true,true,true,false,true,false,false,false,false,false,false,false], false), (5, [true,true,false,true,true,true,true,false,false,false,false,false,false,false], false)]),
  ([true,true,false,false,true,true,true,false,false,false,false,false,false,false], [(2, [true,true,true,false,true,true,true,false,false,false,false,false,false,false], false), (3, [true,true,false,true,true,true,true,false,false,false,false,false,false,false], false), (7, [true,true,false,false,true,true,true,true,false,false,false,false,false,false], false)]),
  ([true,false,true,true,true,true,false,false,false,false,false,false,false,false], [(1, [true,true,true,true,true,true,false,false,false,false,false,false,false,false], false), (6, [true,false,true,true,true,true,true,false,false,false,false,false,false,false], false)]),
  ([true,false,true,true,true,false,true,false,false,false,false,false,false,false], [(1, [true,true,true,true,true,false,true,false,false,false,false,false,false,false], false), (5, [true,false,true,true,true,true,true,false,false,false,false,false,false,false], false)]),
  ([true,false,true,false,true,true,true,false,false,false,false,false,false,false], [(1, [true,true,true,false,true,true,true,false,false,false,false,false,false,false], false), (3, [true,false,true,true,true,true,true,false,false,false,false,false,false,false], false), (7, [true,false,true,false,true,true,true,true,false,false,false,false,false,false], false)]),
  ([true,false,false,true,true,true,true,false,false,false,false,false,false,false], [(1, [true,true,false,true,true,true,true,false,false,false,false,false,false,false], false), (2, [true,false,true,true,true,true,true,false,false,false,false,false,false,false], false), (7, [true,false,false,true,true,true,true,true,false,false,false,false,false,false], false)]),
  ([true,false,false,false,true,true,true,true,false,false,false,false,false,false], [(1, [true,true,false,false,true,true,true,true,false,false,false,false,false,false], false), (2, [true,false,true,false,true,true,true,true,false,false,false,false,false,false], false), (3, [true,false,false,true,true,true,true,true,false,false,false,false,false,false], false), (8, [true,false,false,false,true,true,true,true,true,false,false,false,false,false], false)]),
  ([false,false,true,true,true,true,true,false,false,false,false,false,false,false], [(0, [true,false,true,true,true,true,true,false,false,false,false,false,false,false], false), (7, [false,false,true,true,true,true,true,true,false,false,false,false,false,false], false)]),
  ([false,false,true,false,true,true,true,true,false,false,false,false,false,false], [(0, [true,false,true,false,true,true,true,true,false,false,false,false,false,false], false), (3, [false,false,true,true,true,true,true,true,false,false,false,false,false,false], false), (8, [false,false,true,false,true,true,true,true,true,false,false,false,false,false], false)]),
  ([false,false,false,true,true,true,true,true,false,false,false,false,false,false], [(0, [true,false,false,true,true,true,true,true,false,false,false,false,false,false], false), (2, [false,false,true,true,true,true,true,true,false,false,false,false,false,false], false), (8, [false,false,false,true,true,true,true,true,true,false,false,false,false,false], false)]),
  ([false,false,false,false,true,true,true,true,true,false,false,false,false,false], [(0, [true,false,false,false,true,true,true,true,true,false,false,false,false,false], false), (2, [false,false,true,false,true,true,true,true,true,false,false,false,false,false], false), (3, [false,false,false,true,true,true,true,true,true,false,false,false,false,false], false), (9, [false,false,false,false,true,true,true,true,true,true,false,false,false,false], false)]),
  ([true,true,true,true,true,true,false,false,false,false,false,false,false,false], [(6, [true,true,true,true,true,true,true,false,false,false,false,false,false,false], false)]),
  ([true,true,true,true,true,false,true,false,false,false,false,false,false,false], [(5, [true,true,true,true,true,true,true,false,false,false,false,false,false,false], false)]),
  ([true,true,true,false,true,true,true,false,false,false,false,false,false,false], [(3, [true,true,true,true,true,true,true,false,false,false,false,false,false,false], false), (7, [true,true,true,false,true,true,true,true,false,false,false,false,false,false], false)]),
  ([true,true,false,true,true,true,true,false,false,false,false,false,false,false], [(2, [true,true,true,true,true,true,true,false,false,false,false,false,false,false], false), (7, [true,true,false,true,true,true,true,true,false,false,false,false,false,false], false)]),
  ([true,true,false,false,true,true,true,true,false,false,false,false,false,false], [(2, [true,true,true,false,true,true,true,true,false,false,false,false,false,false], false), (3, [true,true,false,true,true,true,true,true,false,false,false,false,false,false], false), (8, [true,true,false,false,true,true,true,true,true,false,false,false,false,false], false)]),
  ([true,false,true,true,true,true,true,false,false,false,false,false,false,false], [(1, [true,true,true,true,true,true,true,false,false,false,false,false,false,false], false), (7, [true,false,true,true,true,true,true,true,false,false,false,false,false,false], false)]),
  ([true,false,true,false,true,true,true,true,false,false,false,false,false,false], [(1, [true,true,true,false,true,true,true,true,false,false,false,false,false,false], false), (3, [true,false,true,true,true,true,true,true,false,false,false,false,false,false], false), (8, [true,false,true,false,true,true,true,true,true,false,false,false,false,false], false)]),
  ([true,false,false,true,true,true,true,true,false,false,false,false,false,false], [(1, [true,true,false,true,true,true,true,true,false,false,false,false,false,false], false), (2, [true,false,true,true,true,true,true,true,false,false,false,false,false,false], false), (8, [true,false,false,true,true,true,true,true,true,false,false,false,false,false], false)]),
  ([true,false,false,false,true,true,true,true,true,false,false,false,false,false], [(1, [true,true,false,false,true,true,true,true,true,false,false,false,false,false], false), (2, [true,false,true,false,true,true,true,true,true,false,false,false,false,false], false), (3, [true,false,false,true,true,true,true,true,true,false,false,false,false,false], false), (9, [true,false,false,false,true,true,true,true,true,true,false,false,false,false], false)]),
  ([false,false,true,true,true,true,true,true,false,false,false,false,false,false], [(0, [true,false,true,true,true,true,true,true,false,false,false,false,false,false], false), (8, [false,false,true,true,true,true,true,true,true,false,false,false,false,false], false)]),
  ([false,false,true,false,true,true,true,true,true,false,false,false,false,false], [(0, [true,false,true,false,true,true,true,true,true,false,false,false,false,false], false), (3, [false,false,true,true,true,true,true,true,true,false,false,false,false,false], false), (9, [false,false,true,false,true,true,true,true,true,true,false,false,false,false], false)]),
  ([false,false,false,true,true,true,true,true,true,false,false,false,false,false], [(0, [true,false,false,true,true,true,true,true,true,false,false,false,false,false], false), (2, [false,false,true,true,true,true,true,true,true,false,false,false,false,false], false), (9, [false,false,false,true,true,true,true,true,true,true,false,false,false,false], false)]),
  ([false,false,false,false,true,true,true,true,true,true,false,false,false,false], [(0, [true,false,false,false,true,true,true,true,true,true,false,false,false,false], false), (2, [false,false,true,false,true,true,true,true,true,true,false,false,false,false], false), (3, [false,false,false,true,true,true,true,true,true,true,false,false,false,false], false)]),
  ([true,true,true,true,true,true,true,false,false,false,false,false,false,false], [(7, [true,true,true,true,true,true,true,true,false,false,false,false,false,false], false)]),
  ([true,true,true,false,true,true,true,true,false,false,false,false,false,false], [(3, [true,true,true,true,true,true,true,true,false,false,false,false,false,false], false), (8, [true,true,true,false,true,true,true,true,true,false,false,false,false,false], false)]),
  ([true,true,false,true,true,true,true,true,false,false,false,false,false,false], [(2, [true,true,true,true,true,true,true,true,false,false,false,false,false,false], false), (8, [true,true,false,true,true,true,true,true,true,false,false,false,false,false], false)]),
  ([true,true,false,false,true,true,true,true,true,false,false,false,false,false], [(2, [true,true,true,false,true,true,true,true,true,false,false,false,false,false], false), (3, [true,true,false,true,true,true,true,true,true,false,false,false,false,false], false), (9, [true,true,false,false,true,true,true,true,true,true,false,false,false,false], false)]),
  ([true,false,true,true,true,true,true,true,false,false,false,false,false,false], [(1, [true,true,true,true,true,true,true,true,false,false,false,false,false,false], false), (8, [true,false,true,true,true,true,true,true,true,false,false,false,false,false], false)]),
  ([true,false,true,false,true,true,true,true,true,false,false,false,false,false], [(1, [true,true,true,false,true,true,true,true,true,false,false,false,false,false], false), (3, [true,false,true,true,true,true,true,true,true,false,false,false,false,false], false), (9, [true,false,true,false,true,true,true,true,true,true,false,false,false,false], false)]),
  ([true,false,false,true,true,true,true,true,true,false,false,false,false,false], [(1, [true,true,false,true,true,true,true,true,true,false,false,false,false,false], false), (2, [true,false,true,true,true,true,true,true,true,false,false,false,false,false], false), (9, [true,false,false,true,true,true,true,true,true,true,false,false,false,false], false)]),
  ([true,false,false,false,true,true,true,true,true,true,false,false,false,false], [(1, [true,true,false,false,true,true,true,true,true,true,false,false,false,false], false), (2, [true,false,true,false,true,true,true,true,true,true,false,false,false,false], false), (3, [true,false,false,true,true,true,true,true,true,true,false,false,false,false], false)]),
  ([false,false,true,true,true,true,true,true,true,false,false,false,false,false], [(0, [true,false,true,true,true,true,true,true,true,false,false,false,false,false], false), (9, [false,false,true,true,true,true,true,true,true,true,false,false,false,false], false)]),
  ([false,false,true,false,true,true,true,true,true,true,false,false,false,false], [(0, [true,false,true,false,true,true,true,true,true,true,false,false,false,false], false), (3, [false,false,true,true,true,true,true,true,true,true,false,false,false,false], false)]),
  ([false,false,false,true,true,true,true,true,true,true,false,false,false,false], [(0, [true,false,false,true,true,true,true,true,true,true,false,false,false,false], false), (2, [false,false,true,true,true,true,true,true,true,true,false,false,false,false], false), (10, [false,false,false,true,true,true,true,true,true,true,true,false,false,false], false)]),
  ([true,true,true,true,true,true,true,true,false,false,false,false,false,false], [(8, [true,true,true,true,true,true,true,true,true,false,false,false,false,false], false)]),
  ([true,true,true,false,true,true,true,true,true,false,false,false,false,false], [(3, [true,true,true,true,true,true,true,true,true,false,false,false,false,false], false), (9, [true,true,true,false,true,true,true,true,true,true,false,false,false,false], false)]),
  ([true,true,false,true,true,true,true,true,true,false,false,false,false,false], [(2, [true,true,true,true,true,true,true,true,true,false,false,false,false,false], false), (9, [true,true,false,true,true,true,true,true,true,true,false,false,false,false], false)]),
  ([true,true,false,false,true,true,true,true,true,true,false,false,false,false], [(2, [true,true,true,false,true,true,true,true,true,true,false,false,false,false], false), (3, [true,true,false,true,true,true,true,true,true,true,false,false,false,false], false)]),
  ([true,false,true,true,true,true,true,true,true,false,false,false,false,false], [(1, [true,true,true,true,true,true,true,true,true,false,false,false,false,false], false), (9, [true,false,true,true,true,true,true,true,true,true,false,false,false,false], false)]),
  ([true,false,true,false,true,true,true,true,true,true,false,false,false,false], [(1, [true,true,true,false,true,true,true,true,true,true,false,false,false,false], false), (3, [true,false,true,true,true,true,true,true,true,true,false,false,false,false], false)]),
  ([true,false,false,true,true,true,true,true,true,true,false,false,false,false], [(1, [true,true,false,true,true,true,true,true,true,true,false,false,false,false], false), (2, [true,false,true,true,true,true,true,true,true,true,false,false,false,false], false), (10, [true,false,false,true,true,true,true,true,true,true,true,false,false,false], false)]),
  ([false,false,true,true,true,true,true,true,true,true,false,false,false,false], [(0, [true,false,true,true,true,true,true,true,true,true,false,false,false,false], false), (10, [false,false,true,true,true,true,true,true,true,true,true,false,false,false], false)]),
  ([false,false,false,true,true,true,true,true,true,true,true,false,false,false], [(0, [true,false,false,true,true,true,true,true,true,true,true,false,false,false], false), (2, [false,false,true,true,true,true,true,true,true,true,true,false,false,false], false)]),
  ([true,true,true,true,true,true,true,true,true,false,false,false,false,false], [(9, [true,true,true,true,true,true,true,true,true,true,false,false,false,false], false)]),
  ([true,true,true,false,true,true,true,true,true,true,false,false,false,false], [(3, [true,true,true,true,true,true,true,true,true,true,false,false,false,false], false)]),
  ([true,true,false,true,true,true,true,true,true,true,false,false,false,false], [(2, [true,true,true,true,true,true,true,true,true,true,false,false,false,false], false), (10, [true,true,false,true,true,true,true,true,true,true,true,false,false,false], false)]),
  ([true,false,true,true,true,true,true,true,true,true,false,false,false,false], [(1, [true,true,true,true,true,true,true,true,true,true,false,false,false,false], false), (10, [true,false,true,true,true,true,true,true,true,true,true,false,false,false], false)]),
  ([true,false,false,true,true,true,true,true,true,true,true,false,false,false], [(1, [true,true,false,true,true,true,true,true,true,true,true,false,false,false], false), (2, [true,false,true,true,true,true,true,true,true,true,true,false,false,false], false)]),
  ([false,false,true,true,true,true,true,true,true,true,true,false,false,false], [(0, [true,false,true,true,true,true,true,true,true,true,true,false,false,false], false)]),
  ([true,true,true,true,true,true,true,true,true,true,false,false,false,false], [(10, [true,true,true,true,true,true,true,true,true,true,true,false,false,false], false)]),
  ([true,true,false,true,true,true,true,true,true,true,true,false,false,false], [(2, [true,true,true,true,true,true,true,true,true,true,true,false,false,false], false)]),
  ([true,false,true,true,true,true,true,true,true,true,true,false,false,false], [(1, [true,true,true,true,true,true,true,true,true,true,true,false,false,false], false)]),
  ([true,true,true,true,true,true,true,true,true,true,true,false,false,false], [(11, [true,true,true,true,true,true,true,true,true,true,true,true,false,false], false)]),
  ([true,true,true,true,true,true,true,true,true,true,true,true,false,false], [(12, [true,true,true,true,true,true,true,true,true,true,true,true,true,false], false)]),
  ([true,true,true,true,true,true,true,true,true,true,true,true,true,false], [(13, [true,true,true,true,true,true,true,true,true,true,true,true,true,true], true)])]
variable [Bd]
theorem wk4 {N n : Nat} {t t' : List (Nat × AV)} {a b c d a' b' c' d' : Ob} (h : Keep N [some 0, some 1, some 2, some 3] ⟨n, t, [a, b, c, d]⟩ ⟨n, t', [a', b', c', d']⟩) : Wk N ⟨n, t, [a, b, c, d]⟩ ⟨n, t', [a', b', c', d']⟩ := h.wk
theorem wk6 {N n : Nat} {t t' : List (Nat × AV)} {a b c d e f a' b' c' d' e' f' : Ob} (h : Keep N [some 0, some 1, some 2, some 3, some 4, some 5] ⟨n, t, [a, b, c, d, e, f]⟩ ⟨n, t', [a', b', c', d', e', f']⟩) : Wk N ⟨n, t, [a, b, c, d, e, f]⟩ ⟨n, t', [a', b', c', d', e', f']⟩ := h.wk
theorem wk5 {N n : Nat} {t t' : List (Nat × AV)} {a b c d e a' b' c' d' e' : Ob} (h : Keep N [some 0, some 1, some 2, some 3, some 4] ⟨n, t, [a, b, c, d, e]⟩ ⟨n, t', [a', b', c', d', e']⟩) : Wk N ⟨n, t, [a, b, c, d, e]⟩ ⟨n, t', [a', b', c', d', e']⟩ := h.wk
theorem l4SpoilSetIn (b : List UInt8) (p : Nat) (gs : List Group) (hB : Bd.B ≤ 2147483648) (hb : b.length ≤ 1000) (hp : p ≤ b.length) (h0 : 0 < gs.length) (hk : nx b p % 4 = 1) {g : Group} (hg : gs[nx b p / 4 % gs.length]? = some g) (hs : ¬ (g.sets = [] ∨ nx b (np b p) % 3 = 1)) : ConM P0 57 [.rf 0 0, .ag [.sr 1]] [rdO b p, grO gs] (.ag [.sr 1]) [rdO b (np b (np b p)), grO (spoilG (nx b p) gs (nx b (np b p)))] := by
  refine ConM.intro (fn := Try.f57) [.cell 4 25] (fun i => if i = 7 then (999999, []) else (0, [])) mixed (by kernel_rfl) rfl (by decide) rfl (by rfl) (by kernel_rfl) ?_
  simp -implicitDefEqProofs (maxSteps := 2000000) only [push_cast, Nat.reduceEqDiff, Nat.reduceLT, Nat.reduceLeDiff, Nat.reduceAdd, Nat.reduceMul, Nat.reduceSub, Nat.reduceBEq, ↓reduceIte, reduceCtorEq]
  have := Bd.lo
  refine Callx.hand [0] (rdNext b p hb hp) (by decide) (by simp only [push_cast, Nat.reduceEqDiff, Nat.reduceLT, Nat.reduceLeDiff, Nat.reduceAdd, Nat.reduceMul, Nat.reduceSub, Nat.reduceBEq, ↓reduceIte, reduceCtorEq]) rfl rfl (by simp only [push_cast, Nat.reduceEqDiff, Nat.reduceLT, Nat.reduceLeDiff, Nat.reduceAdd, Nat.reduceMul, Nat.reduceSub, Nat.reduceBEq, ↓reduceIte, reduceCtorEq] <;> rfl) rfl (.inr ⟨rfl, by simp only [push_cast, Nat.reduceEqDiff, Nat.reduceLT, Nat.reduceLeDiff, Nat.reduceAdd, Nat.reduceMul, Nat.reduceSub, Nat.reduceBEq, ↓reduceIte, reduceCtorEq]⟩) ?_
  simp -implicitDefEqProofs (maxSteps := 2000000) only [push_cast, Nat.reduceEqDiff, Nat.reduceLT, Nat.reduceLeDiff, Nat.reduceAdd, Nat.reduceMul, Nat.reduceSub, Nat.reduceBEq, ↓reduceIte, reduceCtorEq, eGroup]
  have hk' := nx_lt (b := b) (p := p)
  generalize nx b p = k at *
  obtain ⟨⟨e1, e2⟩, e3⟩ := spoilS_at (k := k) h0
  have h64 : inI64 (k : Int) := by unfold inI64; omega
  have e4 : (k : Int) / 4 % (gs.length : Int) = ((k / 4 % gs.length : Nat) : Int) := by omega
  rw [e4]
  intro _
  refine ⟨by omega, by omega, h64, by omega, by omega, by omega, by omega, iteI (fun h => by omega) (fun h => ⟨by omega, by omega, iteI (fun h => ?_) (fun h => by omega)⟩)⟩
  generalize hq : np b p = q at *
  have hq2 : q ≤ b.length := hq ▸ np_le hp
  generalize hx : nx b q = x at *
  generalize ha : k / 4 % gs.length = a at *
  refine WL.dag (fun l => ⟨77, pickB l [(32, .rf 2 0), (33, .sr 1), (34, .t (.i .i64 a)), (35, .rf 0 0), (36, .rf 2 0), (37, .sr 1), (38, .t (.i .i64 a)), (39, .ra 1 a 2 0), (40, .ra 1 a 2 1), (41, .sr 4), (42, .sr 4), (43, .ra 1 a 2 0), (44, .ra 1 a 2 1)] ++ [(0, .rf 0 0), (3, .rf 2 0), (4, .rf 3 0), (7, .t (.i .i64 a))], selB l [none, none, none, none, none, none, none, none, none,
      some [rdO b q, .hole 59 2 (.ag [.leaf, .sl 38 3 (.ag [.leaf, .leaf, .leaf])]) (gs.map eGroup) a 1 4, .box (.ag [.sr 1]), .box (.ag [.ns]), enO g.sets],
      some [rdO b (np b q), .hole 59 2 (.ag [.leaf, .sl 38 3 (.ag [.leaf, .leaf, .leaf])]) (gs.map eGroup) a 1 4, .box (.ag [.sr 1]), .box (.ag [.ns]), enO (spoilIn x g.sets)]]
      [rdO b q, grO gs, .box (.ag [.sr 1]), .box (.ag [.ns])]⟩) sets7 mixed (by kernel_rfl) (Keep.wk (ids := [some 0, some 1, some 2, some 3]) ?_) ?_
  · simp only [push_cast, Nat.reduceEqDiff, Nat.reduceLT, Nat.reduceLeDiff, Nat.reduceAdd, Nat.reduceMul, Nat.reduceSub, Nat.reduceBEq, ↓reduceIte, reduceCtorEq] <;> first | rfl | trivial
  generalize hK : cutK _ _ _ _ = K
  unfold sets7
  have hc := l4SpoilIn b q g.sets hb hq2 (by rw [hx]; simpa using hs)
  rw [hx] at hc
  have ha0 : (0 : Int) ≤ a := by omega
  have ha1 : (a : Int) < gs.length := by omega
  simp -implicitDefEqProofs (maxSteps := 2000000) only [push_cast, Nat.reduceEqDiff, Nat.reduceLT, Nat.reduceLeDiff, Nat.reduceAdd, Nat.reduceMul, Nat.reduceSub, Nat.reduceBEq, ↓reduceIte, reduceCtorEq, eGroup, Int.toNat_natCast]
  repeat' first
    | with_reducible refine And.intro ?_ ?_
    | with_reducible exact Wk.refl _
    | with_reducible exact trivial
    | with_reducible exact e2
    | with_reducible exact ha0
    | with_reducible exact ha1
    | with_reducible refine Or.inr ?_
    | (with_reducible intro g' hg'; rw [hg] at hg'; cases hg')
    | (with_reducible refine wk4 ?_; simp only [push_cast, Nat.reduceEqDiff, Nat.reduceLT, Nat.reduceLeDiff, Nat.reduceAdd, Nat.reduceMul, Nat.reduceSub, Nat.reduceBEq, ↓reduceIte, reduceCtorEq] <;> first | rfl | trivial; done)
    | (with_reducible refine wk5 ?_; simp only [push_cast, Nat.reduceEqDiff, Nat.reduceLT, Nat.reduceLeDiff, Nat.reduceAdd, Nat.reduceMul, Nat.reduceSub, Nat.reduceBEq, ↓reduceIte, reduceCtorEq] <;> first | rfl | trivial; done)
    | (refine Callx.hand [0, 4] hc (by decide) (by simp only [push_cast, Nat.reduceEqDiff, Nat.reduceLT, Nat.reduceLeDiff, Nat.reduceAdd, Nat.reduceMul, Nat.reduceSub, Nat.reduceBEq, ↓reduceIte, reduceCtorEq]) rfl rfl (by simp only [push_cast, Nat.reduceEqDiff, Nat.reduceLT, Nat.reduceLeDiff, Nat.reduceAdd, Nat.reduceMul, Nat.reduceSub, Nat.reduceBEq, ↓reduceIte, reduceCtorEq] <;> rfl) rfl (.inr ⟨rfl, by simp only [push_cast, Nat.reduceEqDiff, Nat.reduceLT, Nat.reduceLeDiff, Nat.reduceAdd, Nat.reduceMul, Nat.reduceSub, Nat.reduceBEq, ↓reduceIte, reduceCtorEq]⟩) ?_; simp -implicitDefEqProofs (maxSteps := 2000000) only [push_cast, Nat.reduceEqDiff, Nat.reduceLT, Nat.reduceLeDiff, Nat.reduceAdd, Nat.reduceMul, Nat.reduceSub, Nat.reduceBEq, ↓reduceIte, reduceCtorEq])
    | fail
  have hst : (gs.map eGroup).set a (T.ag [T.i .i64 g.parent, T.sl ((spoilIn x g.sets).map eEntry)]) = (spoilG k gs x).map eGroup := by
    unfold spoilG
    rw [ha, hg]
    dsimp only
    rw [if_neg (by omega), List.map_set, show spoilL x g.sets = spoilIn x g.sets from if_neg hs]
    rfl
  rw [hst]
  exact Close.of [some 0, some 1] rfl rfl rfl (by simp only [push_cast, Nat.reduceEqDiff, Nat.reduceLT, Nat.reduceLeDiff, Nat.reduceAdd, Nat.reduceMul, Nat.reduceSub, Nat.reduceBEq, ↓reduceIte, reduceCtorEq] <;> rfl) (by simp only [push_cast, Nat.reduceEqDiff, Nat.reduceLT, Nat.reduceLeDiff, Nat.reduceAdd, Nat.reduceMul, Nat.reduceSub, Nat.reduceBEq, ↓reduceIte, reduceCtorEq] <;> rfl)
theorem l4SpoilSetOut (b : List UInt8) (p : Nat) (gs : List Group) (hB : Bd.B ≤ 2147483648) (hb : b.length ≤ 1000) (hp : p ≤ b.length) (h0 : 0 < gs.length) (hk : nx b p % 4 = 1) {g : Group} (hg : gs[nx b p / 4 % gs.length]? = some g) (hs : g.sets = [] ∨ nx b (np b p) % 3 = 1) (hl : g.sets.length + 1 < Bd.B) : ConM P0 57 [.rf 0 0, .ag [.sr 1]] [rdO b p, grO gs] (.ag [.sr 1]) [rdO b (np b (np b p)), grO (spoilG (nx b p) gs (nx b (np b p)))] := by
  refine ConM.intro (fn := Try.f57) [.cell 4 25] (fun i => if i = 7 then (999999, []) else (0, [])) mixed (by kernel_rfl) rfl (by decide) rfl (by rfl) (by kernel_rfl) ?_
  simp -implicitDefEqProofs (maxSteps := 2000000) only [push_cast, Nat.reduceEqDiff, Nat.reduceLT, Nat.reduceLeDiff, Nat.reduceAdd, Nat.reduceMul, Nat.reduceSub, Nat.reduceBEq, ↓reduceIte, reduceCtorEq]
  have := Bd.lo
  refine Callx.hand [0] (rdNext b p hb hp) (by decide) (by simp only [push_cast, Nat.reduceEqDiff, Nat.reduceLT, Nat.reduceLeDiff, Nat.reduceAdd, Nat.reduceMul, Nat.reduceSub, Nat.reduceBEq, ↓reduceIte, reduceCtorEq]) rfl rfl (by simp only [push_cast, Nat.reduceEqDiff, Nat.reduceLT, Nat.reduceLeDiff, Nat.reduceAdd, Nat.reduceMul, Nat.reduceSub, Nat.reduceBEq, ↓reduceIte, reduceCtorEq] <;> rfl) rfl (.inr ⟨rfl, by simp only [push_cast, Nat.reduceEqDiff, Nat.reduceLT, Nat.reduceLeDiff, Nat.reduceAdd, Nat.reduceMul, Nat.reduceSub, Nat.reduceBEq, ↓reduceIte, reduceCtorEq]⟩) ?_
  simp -implicitDefEqProofs (maxSteps := 2000000) only [push_cast, Nat.reduceEqDiff, Nat.reduceLT, Nat.reduceLeDiff, Nat.reduceAdd, Nat.reduceMul, Nat.reduceSub, Nat.reduceBEq, ↓reduceIte, reduceCtorEq, eGroup]
  have hk' := nx_lt (b := b) (p := p)
  generalize nx b p = k at *
  obtain ⟨⟨e1, e2⟩, e3⟩ := spoilS_at (k := k) h0
  have h64 : inI64 (k : Int) := by unfold inI64; omega
  have e4 : (k : Int) / 4 % (gs.length : Int) = ((k / 4 % gs.length : Nat) : Int) := by omega
  rw [e4]
  intro _
  refine ⟨by omega, by omega, h64, by omega, by omega, by omega, by omega, iteI (fun h => by omega) (fun h => ⟨by omega, by omega, iteI (fun h => ?_) (fun h => by omega)⟩)⟩
  generalize hq : np b p = q at *
  have hq2 : q ≤ b.length := hq ▸ np_le hp
  generalize hx : nx b q = x at *
  generalize ha : k / 4 % gs.length = a at *
  refine WL.dag (fun l => ⟨77, pickB l [(32, .rf 2 0), (33, .sr 1), (34, .t (.i .i64 a)), (35, .rf 0 0), (36, .rf 2 0), (37, .sr 1), (38, .t (.i .i64 a)), (39, .ra 1 a 2 0), (40, .ra 1 a 2 1), (41, .sr 4), (42, .sr 5), (43, .ra 1 a 2 0), (44, .ra 1 a 2 1)] ++ [(0, .rf 0 0), (3, .rf 2 0), (4, .rf 3 0), (7, .t (.i .i64 a))], selB l [none, none, none, none, none, none, none, none, none,
      some [rdO b q, .hole 59 2 (.ag [.leaf, .sl 38 3 (.ag [.leaf, .leaf, .leaf])]) (gs.map eGroup) a 1 4, .box (.ag [.sr 1]), .box (.ag [.ns]), enO g.sets],
      some [rdO b (np b q), .hole 59 2 (.ag [.leaf, .sl 38 3 (.ag [.leaf, .leaf, .leaf])]) (gs.map eGroup) a 1 4, .box (.ag [.sr 1]), .box (.ag [.ns]), .dead, enO (spoilOut x g.sets)]]
      [rdO b q, grO gs, .box (.ag [.sr 1]), .box (.ag [.ns])]⟩) sets7 mixed (by kernel_rfl) (Keep.wk (ids := [some 0, some 1, some 2, some 3]) ?_) ?_
  · simp only [push_cast, Nat.reduceEqDiff, Nat.reduceLT, Nat.reduceLeDiff, Nat.reduceAdd, Nat.reduceMul, Nat.reduceSub, Nat.reduceBEq, ↓reduceIte, reduceCtorEq] <;> first | rfl | trivial
  generalize hK : cutK _ _ _ _ = K
  unfold sets7
  have hc := l4SpoilOut b q g.sets hB hl hb hq2 (by rw [hx]; exact hs)
  rw [hx] at hc
  have ha0 : (0 : Int) ≤ a := by omega
  have ha1 : (a : Int) < gs.length := by omega
  simp -implicitDefEqProofs (maxSteps := 2000000) only [push_cast, Nat.reduceEqDiff, Nat.reduceLT, Nat.reduceLeDiff, Nat.reduceAdd, Nat.reduceMul, Nat.reduceSub, Nat.reduceBEq, ↓reduceIte, reduceCtorEq, eGroup, Int.toNat_natCast]
  repeat' first
    | with_reducible refine And.intro ?_ ?_
    | with_reducible exact Wk.refl _
    | with_reducible exact trivial
    | with_reducible exact e2
    | with_reducible exact ha0
    | with_reducible exact ha1
    | with_reducible refine Or.inr ?_
    | (with_reducible intro g' hg'; rw [hg] at hg'; cases hg')
    | (with_reducible refine wk4 ?_; simp only [push_cast, Nat.reduceEqDiff, Nat.reduceLT, Nat.reduceLeDiff, Nat.reduceAdd, Nat.reduceMul, Nat.reduceSub, Nat.reduceBEq, ↓reduceIte, reduceCtorEq] <;> first | rfl | trivial; done)
    | (with_reducible refine wk5 ?_; simp only [push_cast, Nat.reduceEqDiff, Nat.reduceLT, Nat.reduceLeDiff, Nat.reduceAdd, Nat.reduceMul, Nat.reduceSub, Nat.reduceBEq, ↓reduceIte, reduceCtorEq] <;> first | rfl | trivial; done)
    | (with_reducible refine wk6 ?_; simp only [push_cast, Nat.reduceEqDiff, Nat.reduceLT, Nat.reduceLeDiff, Nat.reduceAdd, Nat.reduceMul, Nat.reduceSub, Nat.reduceBEq, ↓reduceIte, reduceCtorEq] <;> first | rfl | trivial; done)
    | (refine Callx.hand [0, 4] hc (by decide) (by simp only [push_cast, Nat.reduceEqDiff, Nat.reduceLT, Nat.reduceLeDiff, Nat.reduceAdd, Nat.reduceMul, Nat.reduceSub, Nat.reduceBEq, ↓reduceIte, reduceCtorEq]) rfl rfl (by simp only [push_cast, Nat.reduceEqDiff, Nat.reduceLT, Nat.reduceLeDiff, Nat.reduceAdd, Nat.reduceMul, Nat.reduceSub, Nat.reduceBEq, ↓reduceIte, reduceCtorEq] <;> rfl) rfl (.inr ⟨rfl, by simp only [push_cast, Nat.reduceEqDiff, Nat.reduceLT, Nat.reduceLeDiff, Nat.reduceAdd, Nat.reduceMul, Nat.reduceSub, Nat.reduceBEq, ↓reduceIte, reduceCtorEq]⟩) ?_; simp -implicitDefEqProofs (maxSteps := 2000000) only [push_cast, Nat.reduceEqDiff, Nat.reduceLT, Nat.reduceLeDiff, Nat.reduceAdd, Nat.reduceMul, Nat.reduceSub, Nat.reduceBEq, ↓reduceIte, reduceCtorEq])
    | fail
  have hst : (gs.map eGroup).set a (T.ag [T.i .i64 g.parent, T.sl ((spoilOut x g.sets).map eEntry)]) = (spoilG k gs x).map eGroup := by
    unfold spoilG
    rw [ha, hg]
    dsimp only
    rw [if_neg (by omega), List.map_set, show spoilL x g.sets = spoilOut x g.sets from if_pos hs]
    rfl
  rw [hst]
  exact Close.of [some 0, some 1] rfl rfl rfl (by simp only [push_cast, Nat.reduceEqDiff, Nat.reduceLT, Nat.reduceLeDiff, Nat.reduceAdd, Nat.reduceMul, Nat.reduceSub, Nat.reduceBEq, ↓reduceIte, reduceCtorEq] <;> rfl) (by simp only [push_cast, Nat.reduceEqDiff, Nat.reduceLT, Nat.reduceLeDiff, Nat.reduceAdd, Nat.reduceMul, Nat.reduceSub, Nat.reduceBEq, ↓reduceIte, reduceCtorEq] <;> rfl)
end Go.Proofs.Ytmgdkkhnjkepiaa.BX
namespace Go.Proofs.Ytmgdkkhnjkepiaa.BX
set_option linter.unusedSectionVars false
set_option linter.unusedSimpArgs false
set_option linter.unusedVariables false
open Go Go.RowKit
set_option maxRecDepth 20000
set_option maxHeartbeats 400000
def spoilS (b : List UInt8) (p : Nat) (gs : List Group) : List Group × Nat :=
  if nx b p % 4 = 1 then (spoilG (nx b p) gs (nx b (np b p)), np b (np b p)) else if nx b p % 4 = 0 then (spoilG (nx b p) gs 0, np b p) else (tailG (nx b p) gs, np b p)
noncomputable def anyS (b : List UInt8) (p : Nat) : List Group × Nat :=
  if nx b p % 5 = 4 then spoilS b (dsOf b (np b p)).p (dsOf b (np b p)).gs else ((dsOf b (np b p)).gs, (dsOf b (np b p)).p)
variable [Bd]
theorem dsOf_I {b : List UInt8} {p : Nat} (hp : p ≤ b.length) : storeOk (dsOf b p).gs = true ∧ 0 < (dsOf b p).gs.length ∧ (dsOf b p).gs.length ≤ 8 ∧ ShortG (dsOf b p).gs ∧ (dsOf b p).p ≤ b.length := by
  have h := dsI hp (i := 1 + nx b p % 8) (by omega)
  unfold dsOf
  exact ⟨h.ok, h.pos (by omega), by have := h.len; omega, h.sh, h.p⟩
theorem l4DrawAnyStore (b : List UInt8) (p : Nat) (hB : Bd.B ≤ 2147483648) (hb : b.length ≤ 1000) (hp : p ≤ b.length) : ConM P0 27 [.rf 0 0] [rdO b p] (.ag [.sr 1]) [rdO b (anyS b p).2, grO (anyS b p).1] := by
  refine ConM.intro (fn := Try.f27) [.cell 2 25] (fun _ => (0, [])) mixed (by kernel_rfl) rfl (by decide) rfl (by rfl) (by kernel_rfl) ?_
  simp -implicitDefEqProofs (maxSteps := 2000000) only [push_cast, Nat.reduceEqDiff, Nat.reduceLT, Nat.reduceLeDiff, Nat.reduceAdd, Nat.reduceMul, Nat.reduceSub, Nat.reduceBEq, ↓reduceIte, reduceCtorEq]
  have := Bd.lo
  refine Callx.hand [0] (rdNext b p hb hp) (by decide) (by simp only [push_cast, Nat.reduceEqDiff, Nat.reduceLT, Nat.reduceLeDiff, Nat.reduceAdd, Nat.reduceMul, Nat.reduceSub, Nat.reduceBEq, ↓reduceIte, reduceCtorEq]) rfl rfl (by simp only [push_cast, Nat.reduceEqDiff, Nat.reduceLT, Nat.reduceLeDiff, Nat.reduceAdd, Nat.reduceMul, Nat.reduceSub, Nat.reduceBEq, ↓reduceIte, reduceCtorEq] <;> rfl) rfl (.inr ⟨rfl, by simp only [push_cast, Nat.reduceEqDiff, Nat.reduceLT, Nat.reduceLeDiff, Nat.reduceAdd, Nat.reduceMul, Nat.reduceSub, Nat.reduceBEq, ↓reduceIte, reduceCtorEq]⟩) ?_
  simp -implicitDefEqProofs (maxSteps := 2000000) only [push_cast, Nat.reduceEqDiff, Nat.reduceLT, Nat.reduceLeDiff, Nat.reduceAdd, Nat.reduceMul, Nat.reduceSub, Nat.reduceBEq, ↓reduceIte, reduceCtorEq]
  have hq := np_le hp
  refine Callx.hand [0] (l4DrawStore b (np b p) hB hb hq) (by decide) (by simp only [push_cast, Nat.reduceEqDiff, Nat.reduceLT, Nat.reduceLeDiff, Nat.reduceAdd, Nat.reduceMul, Nat.reduceSub, Nat.reduceBEq, ↓reduceIte, reduceCtorEq]) rfl rfl (by simp only [push_cast, Nat.reduceEqDiff, Nat.reduceLT, Nat.reduceLeDiff, Nat.reduceAdd, Nat.reduceMul, Nat.reduceSub, Nat.reduceBEq, ↓reduceIte, reduceCtorEq] <;> rfl) rfl (.inr ⟨rfl, by simp only [push_cast, Nat.reduceEqDiff, Nat.reduceLT, Nat.reduceLeDiff, Nat.reduceAdd, Nat.reduceMul, Nat.reduceSub, Nat.reduceBEq, ↓reduceIte, reduceCtorEq]⟩) ?_
  simp -implicitDefEqProofs (maxSteps := 2000000) only [push_cast, Nat.reduceEqDiff, Nat.reduceLT, Nat.reduceLeDiff, Nat.reduceAdd, Nat.reduceMul, Nat.reduceSub, Nat.reduceBEq, ↓reduceIte, reduceCtorEq]
  have hk := nx_lt (b := b) (p := p)
  obtain ⟨i1, i2, i3, i4, i5⟩ := dsOf_I hq
  have hA : anyS b p = if nx b p % 5 = 4 then spoilS b (dsOf b (np b p)).p (dsOf b (np b p)).gs else ((dsOf b (np b p)).gs, (dsOf b (np b p)).p) := rfl
  rw [hA]
  generalize dsOf b (np b p) = d at *
  generalize nx b p = k at *
  refine ⟨by omega, by omega, iteI (fun h => ?_) (fun h => ?_)⟩
  · rw [if_pos (by omega)]
    have hS : spoilS b d.p d.gs = if nx b d.p % 4 = 1 then (spoilG (nx b d.p) d.gs (nx b (np b d.p)), np b (np b d.p)) else if nx b d.p % 4 = 0 then (spoilG (nx b d.p) d.gs 0, np b d.p) else (tailG (nx b d.p) d.gs, np b d.p) := rfl
    rw [hS]
    by_cases h1 : nx b d.p % 4 = 1
    · rw [if_pos h1]
      obtain ⟨g, hg⟩ : ∃ g, d.gs[nx b d.p / 4 % d.gs.length]? = some g := ⟨_, List.getElem?_eq_getElem (Nat.mod_lt _ i2)⟩
      by_cases hs : g.sets = [] ∨ nx b (np b d.p) % 3 = 1
      · have hgl : g.sets.length + 1 < Bd.B := by
          obtain ⟨_, hu⟩ := storeUps i1
          have := (hu _ (Nat.mod_lt _ i2) g hg).len
          omega
        refine Callx.hand [0, 2] (l4SpoilSetOut b d.p d.gs hB hb i5 i2 h1 hg hs hgl) (by decide) (by simp only [push_cast, Nat.reduceEqDiff, Nat.reduceLT, Nat.reduceLeDiff, Nat.reduceAdd, Nat.reduceMul, Nat.reduceSub, Nat.reduceBEq, ↓reduceIte, reduceCtorEq]) rfl rfl (by simp only [push_cast, Nat.reduceEqDiff, Nat.reduceLT, Nat.reduceLeDiff, Nat.reduceAdd, Nat.reduceMul, Nat.reduceSub, Nat.reduceBEq, ↓reduceIte, reduceCtorEq] <;> rfl) rfl (.inr ⟨rfl, by simp only [push_cast, Nat.reduceEqDiff, Nat.reduceLT, Nat.reduceLeDiff, Nat.reduceAdd, Nat.reduceMul, Nat.reduceSub, Nat.reduceBEq, ↓reduceIte, reduceCtorEq]⟩) ?_
        simp -implicitDefEqProofs (maxSteps := 2000000) only [push_cast, Nat.reduceEqDiff, Nat.reduceLT, Nat.reduceLeDiff, Nat.reduceAdd, Nat.reduceMul, Nat.reduceSub, Nat.reduceBEq, ↓reduceIte, reduceCtorEq]
        exact Close.of [some 0, some 2] rfl rfl rfl (by simp only [push_cast, Nat.reduceEqDiff, Nat.reduceLT, Nat.reduceLeDiff, Nat.reduceAdd, Nat.reduceMul, Nat.reduceSub, Nat.reduceBEq, ↓reduceIte, reduceCtorEq] <;> rfl) (by simp only [push_cast, Nat.reduceEqDiff, Nat.reduceLT, Nat.reduceLeDiff, Nat.reduceAdd, Nat.reduceMul, Nat.reduceSub, Nat.reduceBEq, ↓reduceIte, reduceCtorEq] <;> rfl)
      · refine Callx.hand [0, 2] (l4SpoilSetIn b d.p d.gs hB hb i5 i2 h1 hg hs) (by decide) (by simp only [push_cast, Nat.reduceEqDiff, Nat.reduceLT, Nat.reduceLeDiff, Nat.reduceAdd, Nat.reduceMul, Nat.reduceSub, Nat.reduceBEq, ↓reduceIte, reduceCtorEq]) rfl rfl (by simp only [push_cast, Nat.reduceEqDiff, Nat.reduceLT, Nat.reduceLeDiff, Nat.reduceAdd, Nat.reduceMul, Nat.reduceSub, Nat.reduceBEq, ↓reduceIte, reduceCtorEq] <;> rfl) rfl (.inr ⟨rfl, by simp only [push_cast, Nat.reduceEqDiff, Nat.reduceLT, Nat.reduceLeDiff, Nat.reduceAdd, Nat.reduceMul, Nat.reduceSub, Nat.reduceBEq, ↓reduceIte, reduceCtorEq]⟩) ?_
        simp -implicitDefEqProofs (maxSteps := 2000000) only [push_cast, Nat.reduceEqDiff, Nat.reduceLT, Nat.reduceLeDiff, Nat.reduceAdd, Nat.reduceMul, Nat.reduceSub, Nat.reduceBEq, ↓reduceIte, reduceCtorEq]
        exact Close.of [some 0, some 2] rfl rfl rfl (by simp only [push_cast, Nat.reduceEqDiff, Nat.reduceLT, Nat.reduceLeDiff, Nat.reduceAdd, Nat.reduceMul, Nat.reduceSub, Nat.reduceBEq, ↓reduceIte, reduceCtorEq] <;> rfl) (by simp only [push_cast, Nat.reduceEqDiff, Nat.reduceLT, Nat.reduceLeDiff, Nat.reduceAdd, Nat.reduceMul, Nat.reduceSub, Nat.reduceBEq, ↓reduceIte, reduceCtorEq] <;> rfl)
    · rw [if_neg h1]
      by_cases h2 : nx b d.p % 4 = 0
      · rw [if_pos h2]
        refine Callx.hand [0, 2] (l4SpoilPar b d.p d.gs hB hb i5 i2 h2 0) (by decide) (by simp only [push_cast, Nat.reduceEqDiff, Nat.reduceLT, Nat.reduceLeDiff, Nat.reduceAdd, Nat.reduceMul, Nat.reduceSub, Nat.reduceBEq, ↓reduceIte, reduceCtorEq]) rfl rfl (by simp only [push_cast, Nat.reduceEqDiff, Nat.reduceLT, Nat.reduceLeDiff, Nat.reduceAdd, Nat.reduceMul, Nat.reduceSub, Nat.reduceBEq, ↓reduceIte, reduceCtorEq] <;> rfl) rfl (.inr ⟨rfl, by simp only [push_cast, Nat.reduceEqDiff, Nat.reduceLT, Nat.reduceLeDiff, Nat.reduceAdd, Nat.reduceMul, Nat.reduceSub, Nat.reduceBEq, ↓reduceIte, reduceCtorEq]⟩) ?_
        simp -implicitDefEqProofs (maxSteps := 2000000) only [push_cast, Nat.reduceEqDiff, Nat.reduceLT, Nat.reduceLeDiff, Nat.reduceAdd, Nat.reduceMul, Nat.reduceSub, Nat.reduceBEq, ↓reduceIte, reduceCtorEq]
        exact Close.of [some 0, some 2] rfl rfl rfl (by simp only [push_cast, Nat.reduceEqDiff, Nat.reduceLT, Nat.reduceLeDiff, Nat.reduceAdd, Nat.reduceMul, Nat.reduceSub, Nat.reduceBEq, ↓reduceIte, reduceCtorEq] <;> rfl) (by simp only [push_cast, Nat.reduceEqDiff, Nat.reduceLT, Nat.reduceLeDiff, Nat.reduceAdd, Nat.reduceMul, Nat.reduceSub, Nat.reduceBEq, ↓reduceIte, reduceCtorEq] <;> rfl)
      · rw [if_neg h2]
        refine Callx.hand [0, 2] (l4SpoilTail b d.p d.gs hB hb i5 i2 (by omega) (by omega)) (by decide) (by simp only [push_cast, Nat.reduceEqDiff, Nat.reduceLT, Nat.reduceLeDiff, Nat.reduceAdd, Nat.reduceMul, Nat.reduceSub, Nat.reduceBEq, ↓reduceIte, reduceCtorEq]) rfl rfl (by simp only [push_cast, Nat.reduceEqDiff, Nat.reduceLT, Nat.reduceLeDiff, Nat.reduceAdd, Nat.reduceMul, Nat.reduceSub, Nat.reduceBEq, ↓reduceIte, reduceCtorEq] <;> rfl) rfl (.inr ⟨rfl, by simp only [push_cast, Nat.reduceEqDiff, Nat.reduceLT, Nat.reduceLeDiff, Nat.reduceAdd, Nat.reduceMul, Nat.reduceSub, Nat.reduceBEq, ↓reduceIte, reduceCtorEq]⟩) ?_
        simp -implicitDefEqProofs (maxSteps := 2000000) only [push_cast, Nat.reduceEqDiff, Nat.reduceLT, Nat.reduceLeDiff, Nat.reduceAdd, Nat.reduceMul, Nat.reduceSub, Nat.reduceBEq, ↓reduceIte, reduceCtorEq]
        exact Close.of [some 0, some 4] rfl rfl rfl (by simp only [push_cast, Nat.reduceEqDiff, Nat.reduceLT, Nat.reduceLeDiff, Nat.reduceAdd, Nat.reduceMul, Nat.reduceSub, Nat.reduceBEq, ↓reduceIte, reduceCtorEq] <;> rfl) (by simp only [push_cast, Nat.reduceEqDiff, Nat.reduceLT, Nat.reduceLeDiff, Nat.reduceAdd, Nat.reduceMul, Nat.reduceSub, Nat.reduceBEq, ↓reduceIte, reduceCtorEq] <;> rfl)
  · rw [if_neg (by omega)]
    exact Close.of [some 0, some 2] rfl rfl rfl (by simp only [push_cast, Nat.reduceEqDiff, Nat.reduceLT, Nat.reduceLeDiff, Nat.reduceAdd, Nat.reduceMul, Nat.reduceSub, Nat.reduceBEq, ↓reduceIte, reduceCtorEq] <;> rfl) (by simp only [push_cast, Nat.reduceEqDiff, Nat.reduceLT, Nat.reduceLeDiff, Nat.reduceAdd, Nat.reduceMul, Nat.reduceSub, Nat.reduceBEq, ↓reduceIte, reduceCtorEq] <;> rfl)
end Go.Proofs.Ytmgdkkhnjkepiaa.BX
namespace Go.Proofs.Ytmgdkkhnjkepiaa.BX
set_option linter.unusedSectionVars false
set_option linter.unusedSimpArgs false
set_option linter.unusedVariables false
open Go Go.RowKit
set_option maxRecDepth 20000
set_option maxHeartbeats 400000
def sets12 : List DN := [([false,false,false,false,false,false,false,false,false,false,false,false], [(0, [true,false,false,false,false,false,false,false,false,false,false,false], false), (1, [false,true,false,false,false,false,false,false,false,false,false,false], false), (3, [false,false,false,true,false,false,false,false,false,false,false,false], false), (8, [false,false,false,false,false,false,false,false,true,false,false,false], false)]),
  ([true,false,false,false,false,false,false,false,false,false,false,false], [(1, [true,true,false,false,false,false,false,false,false,false,false,false], false), (3, [true,false,false,true,false,false,false,false,false,false,false,false], false), (8, [true,false,false,false,false,false,false,false,true,false,false,false], false)]),
  ([false,true,false,false,false,false,false,false,false,false,false,false], [(0, [true,true,false,false,false,false,false,false,false,false,false,false], false), (2, [false,true,true,false,false,false,false,false,false,false,false,false], false), (3, [false,true,false,true,false,false,false,false,false,false,false,false], false), (8, [false,true,false,false,false,false,false,false,true,false,false,false], false)]),
  ([false,false,false,true,false,false,false,false,false,false,false,false], [(0, [true,false,false,true,false,false,false,false,false,false,false,false], false), (1, [false,true,false,true,false,false,false,false,false,false,false,false], false), (4, [false,false,false,true,true,false,false,false,false,false,false,false], false), (8, [false,false,false,true,false,false,false,false,true,false,false,false], false)]),
  ([false,false,false,false,false,false,false,false,true,false,false,false], [(0, [true,false,false,false,false,false,false,false,true,false,false,false], false), (1, [false,true,false,false,false,false,false,false,true,false,false,false], false), (3, [false,false,false,true,false,false,false,false,true,false,false,false], false)]),
  ([true,true,false,false,false,false,false,false,false,false,false,false], [(2, [true,true,true,false,false,false,false,false,false,false,false,false], false), (3, [true,true,false,true,false,false,false,false,false,false,false,false], false), (8, [true,true,false,false,false,false,false,false,true,false,false,false], false)]),
  ([true,false,false,true,false,false,false,false,false,false,false,false], [(1, [true,true,false,true,false,false,false,false,false,false,false,false], false), (4, [true,false,false,true,true,false,false,false,false,false,false,false], false), (8, [true,false,false,true,false,false,false,false,true,false,false,false], false)]),
  ([true,false,false,false,false,false,false,false,true,false,false,false], [(1, [true,true,false,false,false,false,false,false,true,false,false,false], false), (3, [true,false,false,true,false,false,false,false,true,false,false,false], false)]),
  ([false,true,true,false,false,false,false,false,false,false,false,false], [(0, [true,true,true,false,false,false,false,false,false,false,false,false], false), (3, [false,true,true,true,false,false,false,false,false,false,false,false], false), (8, [false,true,true,false,false,false,false,false,true,false,false,false], false)]),
  ([false,true,false,true,false,false,false,false,false,false,false,false], [(0, [true,true,false,true,false,false,false,false,false,false,false,false], false), (2, [false,true,true,true,false,false,false,false,false,false,false,false], false), (4, [false,true,false,true,true,false,false,false,false,false,false,false], false), (8, [false,true,false,true,false,false,false,false,true,false,false,false], false)]),
  ([false,true,false,false,false,false,false,false,true,false,false,false], [(0, [true,true,false,false,false,false,false,false,true,false,false,false], false), (2, [false,true,true,false,false,false,false,false,true,false,false,false], false), (3, [false,true,false,true,false,false,false,false,true,false,false,false], false)]),
  ([false,false,false,true,true,false,false,false,false,false,false,false], [(0, [true,false,false,true,true,false,false,false,false,false,false,false], false), (1, [false,true,false,true,true,false,false,false,false,false,false,false], false), (5, [false,false,false,true,true,true,false,false,false,false,false,false], false), (8, [false,false,false,true,true,false,false,false,true,false,false,false], false)]),
  ([false,false,false,true,false,false,false,false,true,false,false,false], [(0, [true,false,false,true,false,false,false,false,true,false,false,false], false), (1, [false,true,false,true,false,false,false,false,true,false,false,false], false), (4, [false,false,false,true,true,false,false,false,true,false,false,false], false)]),
  ([true,true,true,false,false,false,false,false,false,false,false,false], [(3, [true,true,true,true,false,false,false,false,false,false,false,false], false), (8, [true,true,true,false,false,false,false,false,true,false,false,false], false)]),
  ([true,true,false,true,false,false,false,false,false,false,false,false], [(2, [true,true,true,true,false,false,false,false,false,false,false,false], false), (4, [true,true,false,true,true,false,false,false,false,false,false,false], false), (8, [true,true,false,true,false,false,false,false,true,false,false,false], false)]),
  ([true,true,false,false,false,false,false,false,true,false,false,false], [(2, [true,true,true,false,false,false,false,false,true,false,false,false], false), (3, [true,true,false,true,false,false,false,false,true,false,false,false], false)]),
  ([true,false,false,true,true,false,false,false,false,false,false,false], [(1, [true,true,false,true,true,false,false,false,false,false,false,false], false), (5, [true,false,false,true,true,true,false,false,false,false,false,false], false), (8, [true,false,false,true,true,false,false,false,true,false,false,false], false)]),
  ([true,false,false,true,false,false,false,false,true,false,false,false], [(1, [true,true,false,true,false,false,false,false,true,false,false,false], false), (4, [true,false,false,true,true,false,false,false,true,false,false,false], false)]),
  ([false,true,true,true,false,false,false,false,false,false,false,false], [(0, [true,true,true,true,false,false,false,false,false,false,false,false], false), (4, [false,true,true,true,true,false,false,false,false,false,false,false], false), (8, [false,true,true,true,false,false,false,false,true,false,false,false], false)]),
  ([false,true,true,false,false,false,false,false,true,false,false,false], [(0, [true,true,true,false,false,false,false,false,true,false,false,false], false), (3, [false,true,true,true,false,false,false,false,true,false,false,false], false)]),
  ([false,true,false,true,true,false,false,false,false,false,false,false], [(0, [true,true,false,true,true,false,false,false,false,false,false,false], false), (2, [false,true,true,true,true,false,false,false,false,false,false,false], false), (5, [false,true,false,true,true,true,false,false,false,false,false,false], false), (8, [false,true,false,true,true,false,false,false,true,false,false,false], false)]),
  ([false,true,false,true,false,false,false,false,true,false,false,false], [(0, [true,true,false,true,false,false,false,false,true,false,false,false], false), (2, [false,true,true,true,false,false,false,false,true,false,false,false], false), (4, [false,true,false,true,true,false,false,false,true,false,false,false], false)]),
  ([false,false,false,true,true,true,false,false,false,false,false,false], [(0, [true,false,false,true,true,true,false,false,false,false,false,false], false), (1, [false,true,false,true,true,true,false,false,false,false,false,false], false), (8, [false,false,false,true,true,true,false,false,true,false,false,false], false)]),
  ([false,false,false,true,true,false,false,false,true,false,false,false], [(0, [true,false,false,true,true,false,false,false,true,false,false,false], false), (1, [false,true,false,true,true,false,false,false,true,false,false,false], false), (5, [false,false,false,true,true,true,false,false,true,false,false,false], false)]),
  ([true,true,true,true,false,false,false,false,false,false,false,false], [(4, [true,true,true,true,true,false,false,false,false,false,false,false], false), (8, [true,true,true,true,false,false,false,false,true,false,false,false], false)]),
  ([true,true,true,false,false,false,false,false,true,false,false,false], [(3, [true,true,true,true,false,false,false,false,true,false,false,false], false)]),
  ([true,true,false,true,true,false,false,false,false,false,false,false], [(2, [true,true,true,true,true,false,false,false,false,false,false,false], false), (5, [true,true,false,true,true,true,false,false,false,false,false,false], false), (8, [true,true,false,true,true,false,false,false,true,false,false,false], false)]),
  ([true,true,false,true,false,false,false,false,true,false,false,false], [(2, [true,true,true,true,false,false,false,false,true,false,false,false], false), (4, [true,true,false,true,true,false,false,false,true,false,false,false], false)]),
  ([true,false,false,true,true,true,false,false,false,false,false,false], [(1, [true,true,false,true,true,true,false,false,false,false,false,false], false), (8, [true,false,false,true,true,true,false,false,true,false,false,false], false)]),
  ([true,false,false,true,true,false,false,false,true,false,false,false], [(1, [true,true,false,true,true,false,false,false,true,false,false,false], false), (5, [true,false,false,true,true,true,false,false,true,false,false,false], false)]),
  ([false,true,true,true,true,false,false,false,false,false,false,false], [(0, [true,true,true,true,true,false,false,false,false,false,false,false], false), (5, [false,true,true,true,true,true,false,false,false,false,false,false], false), (8, [false,true,true,true,true,false,false,false,true,false,false,false], false)]),
  ([false,true,true,true,false,false,false,false,true,false,false,false], [(0, [true,true,true,true,false,false,false,false,true,false,false,false], false), (4, [false,true,true,true,true,false,false,false,true,false,false,false], false)]),
  ([false,true,false,true,true,true,false,false,false,false,false,false], [(0, [true,true,false,true,true,true,false,false,false,false,false,false], false), (2, [false,true,true,true,true,true,false,false,false,false,false,false], false), (8, [false,true,false,true,true,true,false,false,true,false,false,false], false)]),
  ([false,true,false,true,true,false,false,false,true,false,false,false], [(0, [true,true,false,true,true,false,false,false,true,false,false,false], false), (2, [false,true,true,true,true,false,false,false,true,false,false,false], false), (5, [false,true,false,true,true,true,false,false,true,false,false,false], false)]),
  ([false,false,false,true,true,true,false,false,true,false,false,false], [(0, [true,false,false,true,true,true,false,false,true,false,false,false], false), (1, [false,true,false,true,true,true,false,false,true,false,false,false], false)]),
  ([true,true,true,true,true,false,false,false,false,false,false,false], [(5, [true,true,true,true,true,true,false,false,false,false,false,false], false), (8, [true,true,true,true,true,false,false,false,true,false,false,false], false)]),
  ([true,true,true,true,false,false,false,false,true,false,false,false], [(4, [true,true,true,true,true,false,false,false,true,false,false,false], false)]),
  ([true,true,false,true,true,true,false,false,false,false,false,false], [(2, [true,true,true,true,true,true,false,false,false,false,false,false], false), (8, [true,true,false,true,true,true,false,false,true,false,false,false], false)]),
  ([true,true,false,true,true,false,false,false,true,false,false,false], [(2, [true,true,true,true,true,false,false,false,true,false,false,false], false), (5, [true,true,false,true,true,true,false,false,true,false,false,false], false)]),
  ([true,false,false,true,true,true,false,false,true,false,false,false], [(1, [true,true,false,true,true,true,false,false,true,false,false,false], false)]),
  ([false,true,true,true,true,true,false,false,false,false,false,false], [(0, [true,true,true,true,true,true,false,false,false,false,false,false], false), (6, [false,true,true,true,true,true,true,false,false,false,false,false], false), (8, [false,true,true,true,true,true,false,false,true,false,false,false], false)]),
  ([false,true,true,true,true,false,false,false,true,false,false,false], [(0, [true,true,true,true,true,false,false,false,true,false,false,false], false), (5, [false,true,true,true,true,true,false,false,true,false,false,false], false)]),
  ([false,true,false,true,true,true,false,false,true,false,false,false], [(0, [true,true,false,true,true,true,false,false,true,false,false,false], false), (2, [false,true,true,true,true,true,false,false,true,false,false,false], false)]),
  ([true,true,true,true,true,true,false,false,false,false,false,false], [(6, [true,true,true,true,true,true,true,false,false,false,false,false], false), (8, [true,true,true,true,true,true,false,false,true,false,false,false], false)]),
  ([true,true,true,true,true,false,false,false,true,false,false,false], [(5, [true,true,true,true,true,true,false,false,true,false,false,false], false)]),
  ([true,true,false,true,true,true,false,false,true,false,false,false], [(2, [true,true,true,true,true,true,false,false,true,false,false,false], false)]),
  ([false,true,true,true,true,true,true,false,false,false,false,false], [(0, [true,true,true,true,true,true,true,false,false,false,false,false], false), (8, [false,true,true,true,true,true,true,false,true,false,false,false], false)]),
  ([false,true,true,true,true,true,false,false,true,false,false,false], [(0, [true,true,true,true,true,true,false,false,true,false,false,false], false), (6, [false,true,true,true,true,true,true,false,true,false,false,false], false)]),
  ([true,true,true,true,true,true,true,false,false,false,false,false], [(7, [true,true,true,true,true,true,true,true,false,false,false,false], false), (8, [true,true,true,true,true,true,true,false,true,false,false,false], false)]),
  ([true,true,true,true,true,true,false,false,true,false,false,false], [(6, [true,true,true,true,true,true,true,false,true,false,false,false], false)]),
  ([false,true,true,true,true,true,true,false,true,false,false,false], [(0, [true,true,true,true,true,true,true,false,true,false,false,false], false)]),
  ([true,true,true,true,true,true,true,true,false,false,false,false], [(8, [true,true,true,true,true,true,true,true,true,false,false,false], false)]),
  ([true,true,true,true,true,true,true,false,true,false,false,false], [(7, [true,true,true,true,true,true,true,true,true,false,false,false], false)]),
  ([true,true,true,true,true,true,true,true,true,false,false,false], [(9, [true,true,true,true,true,true,true,true,true,true,false,false], false)]),
  ([true,true,true,true,true,true,true,true,true,true,false,false], [(10, [true,true,true,true,true,true,true,true,true,true,true,false], false)]),
  ([true,true,true,true,true,true,true,true,true,true,true,false], [(11, [true,true,true,true,true,true,true,true,true,true,true,true], true)])]
variable [Bd]
def wideTo (gs : List Group) : Nat → List Group
  | 0 => gs
  | i + 1 => wideTo gs i ++ [⟨-1, [⟨[120], [], decT (wideTo gs i).length⟩]⟩]
theorem wideTo_len {gs : List Group} : ∀ {i : Nat}, (wideTo gs i).length = gs.length + i
  | 0 => rfl
  | i + 1 => by show (wideTo gs i ++ _).length = _; rw [List.length_append, wideTo_len, List.length_singleton]; omega
def wideG (k : Nat) (gs : List Group) : List Group := if k % 32 = 31 then wideTo [⟨-1, []⟩] (999 - k / 32 % 2) else gs
theorem spoilS_p {b : List UInt8} {p : Nat} {gs : List Group} (hp : p ≤ b.length) : (spoilS b p gs).2 ≤ b.length := by
  unfold spoilS
  split
  · exact np_le (np_le hp)
  · split <;> exact np_le hp
theorem anyS_p {b : List UInt8} {p : Nat} (hp : p ≤ b.length) : (anyS b p).2 ≤ b.length := by
  unfold anyS
  have := (dsOf_I (np_le hp) (b := b)).2.2.2.2
  split
  · exact spoilS_p this
  · exact this
noncomputable def stA (k : Nat) (G : List Group) (st : List Entry) : List Entry := if k % 4 = 1 ∧ storeOk G = true ∧ 0 < G.length then expandOf G (k / 4 % G.length) else st
noncomputable def stB (k : Nat) (G : List Group) (b : List UInt8) (q : Nat) (st : List Entry) : List Entry := if k % 4 = 2 ∧ storeOk G = true ∧ 0 < G.length then setL (expandOf G (k / 4 % G.length)) (slotAt (nx b q)) false else st
noncomputable def stP (k : Nat) (G : List Group) (b : List UInt8) (q : Nat) : Nat := if k % 4 = 2 ∧ storeOk G = true ∧ 0 < G.length then np b q else q
noncomputable def dvG (b : List UInt8) : List Group := wideG (nx b 0) (anyS b (np b 0)).1
noncomputable def dvS (b : List UInt8) : List Entry := stB (nx b 0) (dvG b) b (anyL b (anyS b (np b 0)).2).2 (stA (nx b 0) (dvG b) (anyL b (anyS b (np b 0)).2).1)
def dvN (b : List UInt8) : Int := (nx b 0 : Int) / 16 - 2
theorem drawSave (c : List UInt8) (hB : Bd.B ≤ 2147483648) : Con P0 5 [.sl (c.map eU8)] (.tp [.ag [.sr 0], .sr 1, .t (.i .i64 (dvN (c.take 1000)))]) [grO (dvG (c.take 1000)), enO (dvS (c.take 1000))] := by
  refine Con.intro (fn := Try.f5) [.cell 2 25, .tmp 3, .tmp 4] (fun i => if i = 1000013 then (999999, []) else if i = 12 then (999999, []) else if i = 1000011 then (999999, []) else if i = 1000009 then (999999, []) else if i = 10 then (9, [(false, 0), (false, 1), (false, 2), (false, 3), (false, 4), (false, 5), (false, 6), (true, 7), (false, 8)]) else if i = 8 then (10, [(false, 0), (false, 1), (false, 2), (false, 3), (false, 4), (false, 5), (false, 6), (true, 7), (false, 8), (true, 9)]) else (0, [])) mixed (by kernel_rfl) rfl (by decide) rfl (by rfl) (by kernel_rfl) ?_
  simp -implicitDefEqProofs (maxSteps := 2000000) only [push_cast, Nat.reduceEqDiff, Nat.reduceLT, Nat.reduceLeDiff, Nat.reduceAdd, Nat.reduceMul, Nat.reduceSub, Nat.reduceBEq, ↓reduceIte, reduceCtorEq]
  have := Bd.lo
  have hb : (c.take 1000).length ≤ 1000 := by rw [List.length_take]; omega
  refine Callx.closed (l1Open c) rfl rfl (.inl rfl) ?_
  generalize c.take 1000 = b at *
  have hD : ∀ gs q1 st q2, anyS b (np b 0) = (gs, q1) → anyL b q1 = (st, q2) → dvG b = wideG (nx b 0) gs ∧ dvS b = stB (nx b 0) (wideG (nx b 0) gs) b q2 (stA (nx b 0) (wideG (nx b 0) gs) st) ∧ dvN b = (nx b 0 : Int) / 16 - 2 := by
    intro gs q1 st q2 h1 h2
    have hg : dvG b = wideG (nx b 0) gs := by unfold dvG; rw [h1]
    refine ⟨hg, ?_, rfl⟩
    unfold dvS
    rw [hg, h1]
    dsimp only
    rw [h2]
  simp -implicitDefEqProofs (maxSteps := 2000000) only [push_cast, Nat.reduceEqDiff, Nat.reduceLT, Nat.reduceLeDiff, Nat.reduceAdd, Nat.reduceMul, Nat.reduceSub, Nat.reduceBEq, ↓reduceIte, reduceCtorEq]
  refine Callx.hand [1] (rdNext b 0 hb (by omega)) (by decide) (by simp only [push_cast, Nat.reduceEqDiff, Nat.reduceLT, Nat.reduceLeDiff, Nat.reduceAdd, Nat.reduceMul, Nat.reduceSub, Nat.reduceBEq, ↓reduceIte, reduceCtorEq]) rfl rfl (by simp only [push_cast, Nat.reduceEqDiff, Nat.reduceLT, Nat.reduceLeDiff, Nat.reduceAdd, Nat.reduceMul, Nat.reduceSub, Nat.reduceBEq, ↓reduceIte, reduceCtorEq] <;> rfl) rfl (.inr ⟨rfl, by simp only [push_cast, Nat.reduceEqDiff, Nat.reduceLT, Nat.reduceLeDiff, Nat.reduceAdd, Nat.reduceMul, Nat.reduceSub, Nat.reduceBEq, ↓reduceIte, reduceCtorEq]⟩) ?_
  simp -implicitDefEqProofs (maxSteps := 2000000) only [push_cast, Nat.reduceEqDiff, Nat.reduceLT, Nat.reduceLeDiff, Nat.reduceAdd, Nat.reduceMul, Nat.reduceSub, Nat.reduceBEq, ↓reduceIte, reduceCtorEq]
  have hq : np b 0 ≤ b.length := np_le (by omega)
  have hk := nx_lt (b := b) (p := 0)
  generalize np b 0 = q at *
  generalize nx b 0 = k at *
  refine Callx.hand [1] (l4DrawAnyStore b q hB hb hq) (by decide) (by simp only [push_cast, Nat.reduceEqDiff, Nat.reduceLT, Nat.reduceLeDiff, Nat.reduceAdd, Nat.reduceMul, Nat.reduceSub, Nat.reduceBEq, ↓reduceIte, reduceCtorEq]) rfl rfl (by simp only [push_cast, Nat.reduceEqDiff, Nat.reduceLT, Nat.reduceLeDiff, Nat.reduceAdd, Nat.reduceMul, Nat.reduceSub, Nat.reduceBEq, ↓reduceIte, reduceCtorEq] <;> rfl) rfl (.inr ⟨rfl, by simp only [push_cast, Nat.reduceEqDiff, Nat.reduceLT, Nat.reduceLeDiff, Nat.reduceAdd, Nat.reduceMul, Nat.reduceSub, Nat.reduceBEq, ↓reduceIte, reduceCtorEq]⟩) ?_
  simp -implicitDefEqProofs (maxSteps := 2000000) only [push_cast, Nat.reduceEqDiff, Nat.reduceLT, Nat.reduceLeDiff, Nat.reduceAdd, Nat.reduceMul, Nat.reduceSub, Nat.reduceBEq, ↓reduceIte, reduceCtorEq]
  obtain ⟨⟨gs, q1⟩, hd⟩ : ∃ d, anyS b q = d := ⟨_, rfl⟩
  rw [hd]
  have hq1 : q1 ≤ b.length := by have := anyS_p hq (b := b); rw [hd] at this; exact this
  refine Callx.hand [1] (l4DrawAny b q1 hB hb hq1) (by decide) (by simp only [push_cast, Nat.reduceEqDiff, Nat.reduceLT, Nat.reduceLeDiff, Nat.reduceAdd, Nat.reduceMul, Nat.reduceSub, Nat.reduceBEq, ↓reduceIte, reduceCtorEq]) rfl rfl (by simp only [push_cast, Nat.reduceEqDiff, Nat.reduceLT, Nat.reduceLeDiff, Nat.reduceAdd, Nat.reduceMul, Nat.reduceSub, Nat.reduceBEq, ↓reduceIte, reduceCtorEq] <;> rfl) rfl (.inr ⟨rfl, by simp only [push_cast, Nat.reduceEqDiff, Nat.reduceLT, Nat.reduceLeDiff, Nat.reduceAdd, Nat.reduceMul, Nat.reduceSub, Nat.reduceBEq, ↓reduceIte, reduceCtorEq]⟩) ?_
  simp -implicitDefEqProofs (maxSteps := 2000000) only [push_cast, Nat.reduceEqDiff, Nat.reduceLT, Nat.reduceLeDiff, Nat.reduceAdd, Nat.reduceMul, Nat.reduceSub, Nat.reduceBEq, ↓reduceIte, reduceCtorEq]
  obtain ⟨⟨st, q2⟩, hst⟩ : ∃ d, anyL b q1 = d := ⟨_, rfl⟩
  rw [hst]
  obtain ⟨hD1, hD2, hD3⟩ := hD gs q1 st q2 hd hst
  rw [hD1, hD2, hD3]
  refine W.join (ι := Unit) (D := (fun i => if i = 1000013 then (999999, []) else if i = 12 then (999999, []) else if i = 1000011 then (999999, []) else if i = 1000009 then (999999, []) else if i = 10 then (9, [(false, 0), (false, 1), (false, 2), (false, 3), (false, 4), (false, 5), (false, 6), (true, 7), (false, 8)]) else if i = 8 then (10, [(false, 0), (false, 1), (false, 2), (false, 3), (false, 4), (false, 5), (false, 6), (true, 7), (false, 8), (true, 9)]) else (0, []))) (fun _ => True) (fun _ => ⟨93, [(2, .rf 0 0), (3, .ns), (4, .t (.i .i64 0)), (5, .rf 1 0), (6, .t (.i .i64 k)), (7, .rf 2 0), (8, .sr 4)], [.box (.ag [.ns]), rdO b q2, .box (.ag [.sr 3]), grO (wideG k gs), enO st]⟩) mixed (by kernel_rfl) ?_ (fun _ _ => ?_)
  · simp -implicitDefEqProofs (maxSteps := 2000000) only [push_cast, Nat.reduceEqDiff, Nat.reduceLT, Nat.reduceLeDiff, Nat.reduceAdd, Nat.reduceMul, Nat.reduceSub, Nat.reduceBEq, ↓reduceIte, reduceCtorEq]
    refine ⟨by omega, by omega, iteI (fun h => ?_) (fun h => ?_)⟩
    · refine ⟨rfl, by omega, ?_⟩
      have hW : wideG k gs = wideTo [⟨-1, []⟩] (999 - k / 32 % 2) := if_pos (by omega)
      rw [hW]
      generalize hm : 999 - k / 32 % 2 = m at *
      refine WL.loop (ι := Nat) (D := (fun i => if i = 1000013 then (999999, []) else if i = 12 then (999999, []) else if i = 1000011 then (999999, []) else if i = 1000009 then (999999, []) else if i = 10 then (9, [(false, 0), (false, 1), (false, 2), (false, 3), (false, 4), (false, 5), (false, 6), (true, 7), (false, 8)]) else if i = 8 then (10, [(false, 0), (false, 1), (false, 2), (false, 3), (false, 4), (false, 5), (false, 6), (true, 7), (false, 8), (true, 9)]) else (0, []))) (fun i => i ≤ m) (fun i => ⟨93, [(2, .rf 0 0), (3, .ns), (4, .t (.i .i64 0)), (5, .rf 1 0), (6, .t (.i .i64 k)), (7, .rf 2 0), (8, .sr 4)], [.box (.ag [.ns]), rdO b q2, .box (.ag [.sr 3]), grO (wideTo [⟨-1, []⟩] i), enO st]⟩) (fun i => m - i) mixed (by kernel_rfl) 0 (by omega) (Keep.wk (ids := [some 0, some 1, some 3, some 5, some 4]) ?_) ?_
      · simp only [push_cast, Nat.reduceEqDiff, Nat.reduceLT, Nat.reduceLeDiff, Nat.reduceAdd, Nat.reduceMul, Nat.reduceSub, Nat.reduceBEq, ↓reduceIte, reduceCtorEq, wideTo, List.map_cons, List.map_nil, eGroup] <;> first | rfl | exact ⟨rfl, rfl⟩ | trivial
      intro i hi
      have hwl : (wideTo [⟨-1, []⟩] i).length = 1 + i := wideTo_len
      simp -implicitDefEqProofs (maxSteps := 2000000) only [push_cast, Nat.reduceEqDiff, Nat.reduceLT, Nat.reduceLeDiff, Nat.reduceAdd, Nat.reduceMul, Nat.reduceSub, Nat.reduceBEq, ↓reduceIte, reduceCtorEq, eGroup]
      intro _
      refine ⟨by omega, by omega, by unfold inI64; omega, by omega, by omega, by unfold inI64; omega, iteI (fun h1 => ?_) (fun h1 => ?_)⟩
      · intro _
        have hdl := decT_len (wideTo [⟨-1, []⟩] i).length 15 (by omega)
        refine CallV.t (l1Dec _ (by omega)) (.inl rfl) ?_
        simp -implicitDefEqProofs (maxSteps := 2000000) only [push_cast, Nat.reduceEqDiff, Nat.reduceLT, Nat.reduceLeDiff, Nat.reduceAdd, Nat.reduceMul, Nat.reduceSub, Nat.reduceBEq, ↓reduceIte, reduceCtorEq, eGroup]
        refine ⟨rfl, by omega, rfl, by omega, rfl, by omega, by omega, i + 1, by omega, by omega, Keep.wk (ids := [some 0, some 1, some 2, some 7, some 4]) ?_⟩
        have hz : (wideTo [⟨-1, []⟩] i).map eGroup ++ [T.ag [T.i .i64 (-1), T.sl [T.ag [T.s [120], T.s [], T.s (decT (wideTo [⟨-1, []⟩] i).length)]]]] = (wideTo [⟨-1, []⟩] (i + 1)).map eGroup := by
          show _ = (wideTo [⟨-1, []⟩] i ++ [_]).map eGroup
          rw [List.map_append]
          rfl
        simp only [push_cast, Nat.reduceEqDiff, Nat.reduceLT, Nat.reduceLeDiff, Nat.reduceAdd, Nat.reduceMul, Nat.reduceSub, Nat.reduceBEq, ↓reduceIte, reduceCtorEq, hz] <;> rfl
      · have hi : i = m := by omega
        rw [hi]
        refine ⟨(), Keep.wk (ids := [some 0, some 1, some 2, some 3, some 4]) ?_⟩
        simp only [push_cast, Nat.reduceEqDiff, Nat.reduceLT, Nat.reduceLeDiff, Nat.reduceAdd, Nat.reduceMul, Nat.reduceSub, Nat.reduceBEq, ↓reduceIte, reduceCtorEq] <;> first | rfl | trivial
    · have hW : wideG k gs = gs := if_neg (by omega)
      rw [hW]
      refine ⟨(), Keep.wk (ids := [some 0, some 1, some 3, some 2, some 4]) ?_⟩
      simp only [push_cast, Nat.reduceEqDiff, Nat.reduceLT, Nat.reduceLeDiff, Nat.reduceAdd, Nat.reduceMul, Nat.reduceSub, Nat.reduceBEq, ↓reduceIte, reduceCtorEq] <;> first | rfl | trivial
  simp -implicitDefEqProofs (maxSteps := 2000000) only [push_cast, Nat.reduceEqDiff, Nat.reduceLT, Nat.reduceLeDiff, Nat.reduceAdd, Nat.reduceMul, Nat.reduceSub, Nat.reduceBEq, ↓reduceIte, reduceCtorEq]
  generalize wideG k gs = G
  refine W.join (ι := Unit) (D := (fun i => if i = 1000013 then (999999, []) else if i = 12 then (999999, []) else if i = 1000011 then (999999, []) else if i = 1000009 then (999999, []) else if i = 10 then (9, [(false, 0), (false, 1), (false, 2), (false, 3), (false, 4), (false, 5), (false, 6), (true, 7), (false, 8)]) else if i = 8 then (10, [(false, 0), (false, 1), (false, 2), (false, 3), (false, 4), (false, 5), (false, 6), (true, 7), (false, 8), (true, 9)]) else (0, []))) (fun _ => True) (fun _ => ⟨93, [(2, .rf 0 0), (3, .ns), (4, .t (.i .i64 0)), (5, .rf 1 0), (6, .t (.i .i64 k)), (7, .rf 2 0), (8, .sr 4)], [.box (.ag [.ns]), rdO b q2, .box (.ag [.sr 3]), grO G, enO (stA k G st)]⟩) mixed (by kernel_rfl) ?_ (fun _ _ => ?_)
  · simp -implicitDefEqProofs (maxSteps := 2000000) only [push_cast, Nat.reduceEqDiff, Nat.reduceLT, Nat.reduceLeDiff, Nat.reduceAdd, Nat.reduceMul, Nat.reduceSub, Nat.reduceBEq, ↓reduceIte, reduceCtorEq]
    refine ⟨by omega, by omega, ?_⟩
    by_cases h1 : k % 4 = 1
    · rw [if_pos (show (k : Int) % 4 = 1 by omega)]
      refine Callx.closed (specStoreOk G hB) rfl rfl (.inr ⟨rfl, rfl⟩) ?_
      simp -implicitDefEqProofs (maxSteps := 2000000) only [push_cast, Nat.reduceEqDiff, Nat.reduceLT, Nat.reduceLeDiff, Nat.reduceAdd, Nat.reduceMul, Nat.reduceSub, Nat.reduceBEq, ↓reduceIte, reduceCtorEq]
      cases hG : storeOk G
      · have hS : stA k G st = st := if_neg (by rw [hG]; simp)
        rw [hS]
        simp -implicitDefEqProofs (maxSteps := 2000000) only [push_cast, Nat.reduceEqDiff, Nat.reduceLT, Nat.reduceLeDiff, Nat.reduceAdd, Nat.reduceMul, Nat.reduceSub, Nat.reduceBEq, ↓reduceIte, reduceCtorEq]
        refine ⟨(), Keep.wk (ids := [some 0, some 1, some 2, some 3, some 4]) ?_⟩
        simp only [push_cast, Nat.reduceEqDiff, Nat.reduceLT, Nat.reduceLeDiff, Nat.reduceAdd, Nat.reduceMul, Nat.reduceSub, Nat.reduceBEq, ↓reduceIte, reduceCtorEq] <;> first | rfl | trivial
      · simp -implicitDefEqProofs (maxSteps := 2000000) only [push_cast, Nat.reduceEqDiff, Nat.reduceLT, Nat.reduceLeDiff, Nat.reduceAdd, Nat.reduceMul, Nat.reduceSub, Nat.reduceBEq, ↓reduceIte, reduceCtorEq]
        intro _
        obtain ⟨hlen, hu⟩ := storeUps hG
        refine iteI (fun h0 => ?_) (fun h0 => ?_)
        · have h0' : 0 < G.length := by omega
          obtain ⟨⟨e1, e2⟩, e3, e4⟩ := spoilS_at (k := k) h0'
          have hS : stA k G st = expandOf G (k / 4 % G.length) := if_pos ⟨h1, hG, h0'⟩
          have e5 : (k : Int) / 4 % (G.length : Int) = ((k / 4 % G.length : Nat) : Int) := by omega
          rw [hS, e5]
          refine ⟨by omega, by omega, by unfold inI64; omega, fun _ => ⟨by omega, by omega, ?_⟩⟩
          refine Mkx.closed (l4Expand G hB (k / 4 % G.length) e2 (fun j hj g hg => ⟨(hu j (by omega) g hg).hi, (hu j (by omega) g hg).ord, (hu j (by omega) g hg).len⟩) (fun j hj => (hu j (by omega) _ (List.getElem?_eq_getElem (show j < G.length by omega))).full) (by omega)) rfl rfl (.inr ⟨rfl, rfl⟩) ?_
          simp -implicitDefEqProofs (maxSteps := 2000000) only [push_cast, Nat.reduceEqDiff, Nat.reduceLT, Nat.reduceLeDiff, Nat.reduceAdd, Nat.reduceMul, Nat.reduceSub, Nat.reduceBEq, ↓reduceIte, reduceCtorEq]
          refine ⟨(), Keep.wk (ids := [some 0, some 1, some 2, some 3, some 5]) ?_⟩
          simp only [push_cast, Nat.reduceEqDiff, Nat.reduceLT, Nat.reduceLeDiff, Nat.reduceAdd, Nat.reduceMul, Nat.reduceSub, Nat.reduceBEq, ↓reduceIte, reduceCtorEq] <;> first | rfl | trivial
        · have hS : stA k G st = st := if_neg (by omega)
          rw [hS]
          refine ⟨(), Keep.wk (ids := [some 0, some 1, some 2, some 3, some 4]) ?_⟩
          simp only [push_cast, Nat.reduceEqDiff, Nat.reduceLT, Nat.reduceLeDiff, Nat.reduceAdd, Nat.reduceMul, Nat.reduceSub, Nat.reduceBEq, ↓reduceIte, reduceCtorEq] <;> first | rfl | trivial
    · rw [if_neg (show ¬ (k : Int) % 4 = 1 by omega)]
      have hS : stA k G st = st := if_neg (by omega)
      rw [hS]
      refine ⟨(), Keep.wk (ids := [some 0, some 1, some 2, some 3, some 4]) ?_⟩
      simp only [push_cast, Nat.reduceEqDiff, Nat.reduceLT, Nat.reduceLeDiff, Nat.reduceAdd, Nat.reduceMul, Nat.reduceSub, Nat.reduceBEq, ↓reduceIte, reduceCtorEq] <;> first | rfl | trivial
  generalize stA k G st = st at *
  refine W.join (ι := Unit) (D := (fun i => if i = 1000013 then (999999, []) else if i = 12 then (999999, []) else if i = 1000011 then (999999, []) else if i = 1000009 then (999999, []) else if i = 10 then (9, [(false, 0), (false, 1), (false, 2), (false, 3), (false, 4), (false, 5), (false, 6), (true, 7), (false, 8)]) else if i = 8 then (10, [(false, 0), (false, 1), (false, 2), (false, 3), (false, 4), (false, 5), (false, 6), (true, 7), (false, 8), (true, 9)]) else (0, []))) (fun _ => True) (fun _ => ⟨93, [(2, .rf 0 0), (3, .ns), (4, .t (.i .i64 0)), (5, .rf 1 0), (6, .t (.i .i64 k)), (7, .rf 2 0), (8, .sr 4)], [.box (.ag [.ns]), rdO b (stP k G b q2), .box (.ag [.sr 3]), grO G, enO (stB k G b q2 st)]⟩) mixed (by kernel_rfl) ?_ (fun _ _ => ?_)
  · simp -implicitDefEqProofs (maxSteps := 2000000) only [push_cast, Nat.reduceEqDiff, Nat.reduceLT, Nat.reduceLeDiff, Nat.reduceAdd, Nat.reduceMul, Nat.reduceSub, Nat.reduceBEq, ↓reduceIte, reduceCtorEq]
    refine ⟨by omega, by omega, ?_⟩
    by_cases h1 : k % 4 = 2
    · rw [if_pos (show (k : Int) % 4 = 2 by omega)]
      refine Callx.closed (specStoreOk G hB) rfl rfl (.inr ⟨rfl, rfl⟩) ?_
      simp -implicitDefEqProofs (maxSteps := 2000000) only [push_cast, Nat.reduceEqDiff, Nat.reduceLT, Nat.reduceLeDiff, Nat.reduceAdd, Nat.reduceMul, Nat.reduceSub, Nat.reduceBEq, ↓reduceIte, reduceCtorEq]
      cases hG : storeOk G
      · have hS : stB k G b q2 st = st := if_neg (by rw [hG]; simp)
        have hP : stP k G b q2 = q2 := if_neg (by rw [hG]; simp)
        rw [hS, hP]
        simp -implicitDefEqProofs (maxSteps := 2000000) only [push_cast, Nat.reduceEqDiff, Nat.reduceLT, Nat.reduceLeDiff, Nat.reduceAdd, Nat.reduceMul, Nat.reduceSub, Nat.reduceBEq, ↓reduceIte, reduceCtorEq]
        refine ⟨(), Keep.wk (ids := [some 0, some 1, some 2, some 3, some 4]) ?_⟩
        simp only [push_cast, Nat.reduceEqDiff, Nat.reduceLT, Nat.reduceLeDiff, Nat.reduceAdd, Nat.reduceMul, Nat.reduceSub, Nat.reduceBEq, ↓reduceIte, reduceCtorEq] <;> first | rfl | trivial
      · simp -implicitDefEqProofs (maxSteps := 2000000) only [push_cast, Nat.reduceEqDiff, Nat.reduceLT, Nat.reduceLeDiff, Nat.reduceAdd, Nat.reduceMul, Nat.reduceSub, Nat.reduceBEq, ↓reduceIte, reduceCtorEq]
        intro _
        refine iteI (fun h0 => ?_) (fun h0 => ?_)
        · have h0' : 0 < G.length := by omega
          obtain ⟨⟨e1, e2⟩, e3, e4⟩ := spoilS_at (k := k) h0'
          obtain ⟨hlen, hu⟩ := storeUps hG
          have hS : stB k G b q2 st = setL (expandOf G (k / 4 % G.length)) (slotAt (nx b q2)) false := if_pos ⟨h1, hG, h0'⟩
          have hP : stP k G b q2 = np b q2 := if_pos ⟨h1, hG, h0'⟩
          have e5 : (k : Int) / 4 % (G.length : Int) = ((k / 4 % G.length : Nat) : Int) := by omega
          rw [hS, hP]
          generalize ha : k / 4 % G.length = a at *
          refine WL.dag (fun l => ⟨93, pickB l [(77, .ag [.sr 3]), (78, .t (.i .i64 k)), (79, .t (.i .i64 ((k : Int) / 4))), (80, .rf 2 0), (81, .sr 3), (82, .t (.i .i64 G.length)), (83, .t (.i .i64 a)), (84, .sr 5), (85, .rf 1 0), (86, .t (eEntry (slotAt (nx b q2))))] ++ [(2, .rf 0 0), (3, .ns), (4, .t (.i .i64 0)), (5, .rf 1 0), (6, .t (.i .i64 k)), (7, .rf 2 0)] ++ selB l [none, none, none, none, none, none, none, none, none, none, some [(87, .sr 6)]] [],
            [.box (.ag [.ns]), rdO b (selB l [none, none, none, none, none, none, none, none, none, some (np b q2)] q2), .box (.ag [.sr 3]), grO G, enO st] ++ selB l [none, none, none, none, none, none, none, some [enO (expandOf G a)], none, none, some [enO (expandOf G a), enO (setL (expandOf G a) (slotAt (nx b q2)) false)]] []⟩) sets12 mixed (by kernel_rfl) (by rw [show List.replicate _ false = [false,false,false,false,false,false,false,false,false,false,false,false] from rfl]; dsimp only [pickB, selB, List.append_nil, List.nil_append]; refine Keep.wk (ids := [some 0, some 1, some 2, some 3, some 4]) ?_; simp only [push_cast, Nat.reduceEqDiff, Nat.reduceLT, Nat.reduceLeDiff, Nat.reduceAdd, Nat.reduceMul, Nat.reduceSub, Nat.reduceBEq, ↓reduceIte, reduceCtorEq] <;> first | rfl | trivial) ?_
          have hq2 : q2 ≤ b.length := by have := anyL_p hq1 (b := b); rw [hst] at this; exact this
          have hel : (expandOf G a).length ≤ 300 := (hu a e2 _ (List.getElem?_eq_getElem e2)).full
          have cX := l4Expand G hB a e2 (fun j hj g hg => ⟨(hu j (by omega) g hg).hi, (hu j (by omega) g hg).ord, (hu j (by omega) g hg).len⟩) (fun j hj => (hu j (by omega) _ (List.getElem?_eq_getElem (show j < G.length by omega))).full) (by omega)
          have cS := l4Set (expandOf G a) (slotAt (nx b q2)) false hB (by omega)
          generalize hK : cutK _ _ _ _ = K
          unfold sets12
          simp -implicitDefEqProofs (maxSteps := 2000000) only [push_cast, Nat.reduceEqDiff, Nat.reduceLT, Nat.reduceLeDiff, Nat.reduceAdd, Nat.reduceMul, Nat.reduceSub, Nat.reduceBEq, ↓reduceIte, reduceCtorEq]
          repeat' first
            | with_reducible refine And.intro ?_ ?_
            | with_reducible exact Wk.refl _
            | with_reducible exact trivial
            | omega
            | (unfold inI64; omega)
            | (intro _; with_reducible refine Keep.wk (ids := [some 0, some 1, some 2, some 3, some 4]) ?_; simp only [push_cast, Nat.reduceEqDiff, Nat.reduceLT, Nat.reduceLeDiff, Nat.reduceAdd, Nat.reduceMul, Nat.reduceSub, Nat.reduceBEq, ↓reduceIte, reduceCtorEq] <;> first | rfl | trivial; done)
            | (rw [e5]; with_reducible refine Keep.wk (ids := [some 0, some 1, some 2, some 3, some 4]) ?_; simp only [push_cast, Nat.reduceEqDiff, Nat.reduceLT, Nat.reduceLeDiff, Nat.reduceAdd, Nat.reduceMul, Nat.reduceSub, Nat.reduceBEq, ↓reduceIte, reduceCtorEq] <;> first | rfl | trivial; done)
            | (with_reducible refine Keep.wk (ids := [some 0, some 1, some 2, some 3, some 4]) ?_; simp only [push_cast, Nat.reduceEqDiff, Nat.reduceLT, Nat.reduceLeDiff, Nat.reduceAdd, Nat.reduceMul, Nat.reduceSub, Nat.reduceBEq, ↓reduceIte, reduceCtorEq] <;> first | rfl | trivial; done)
            | (with_reducible refine Keep.wk (ids := [some 0, some 1, some 2, some 3, some 4, some 5]) ?_; simp only [push_cast, Nat.reduceEqDiff, Nat.reduceLT, Nat.reduceLeDiff, Nat.reduceAdd, Nat.reduceMul, Nat.reduceSub, Nat.reduceBEq, ↓reduceIte, reduceCtorEq] <;> first | rfl | trivial; done)
            | (refine Callx.closed cX rfl rfl (.inr ⟨rfl, rfl⟩) ?_; simp -implicitDefEqProofs (maxSteps := 2000000) only [push_cast, Nat.reduceEqDiff, Nat.reduceLT, Nat.reduceLeDiff, Nat.reduceAdd, Nat.reduceMul, Nat.reduceSub, Nat.reduceBEq, ↓reduceIte, reduceCtorEq]; with_reducible refine Keep.wk (ids := [some 0, some 1, some 2, some 3, some 4, some 5]) ?_; simp only [push_cast, Nat.reduceEqDiff, Nat.reduceLT, Nat.reduceLeDiff, Nat.reduceAdd, Nat.reduceMul, Nat.reduceSub, Nat.reduceBEq, ↓reduceIte, reduceCtorEq] <;> first | rfl | trivial; done)
            | (refine Callx.closed cS rfl rfl (.inr ⟨rfl, rfl⟩) ?_; simp -implicitDefEqProofs (maxSteps := 2000000) only [push_cast, Nat.reduceEqDiff, Nat.reduceLT, Nat.reduceLeDiff, Nat.reduceAdd, Nat.reduceMul, Nat.reduceSub, Nat.reduceBEq, ↓reduceIte, reduceCtorEq]; with_reducible refine Keep.wk (ids := [some 0, some 1, some 2, some 3, some 4, some 5, some 6]) ?_; simp only [push_cast, Nat.reduceEqDiff, Nat.reduceLT, Nat.reduceLeDiff, Nat.reduceAdd, Nat.reduceMul, Nat.reduceSub, Nat.reduceBEq, ↓reduceIte, reduceCtorEq] <;> first | rfl | trivial; done)
            | (refine Callx.hand [1] (l4Slot b q2 hb hq2) (by decide) (by simp only [push_cast, Nat.reduceEqDiff, Nat.reduceLT, Nat.reduceLeDiff, Nat.reduceAdd, Nat.reduceMul, Nat.reduceSub, Nat.reduceBEq, ↓reduceIte, reduceCtorEq]) rfl rfl (by simp only [push_cast, Nat.reduceEqDiff, Nat.reduceLT, Nat.reduceLeDiff, Nat.reduceAdd, Nat.reduceMul, Nat.reduceSub, Nat.reduceBEq, ↓reduceIte, reduceCtorEq] <;> rfl) rfl (.inr ⟨rfl, by simp only [push_cast, Nat.reduceEqDiff, Nat.reduceLT, Nat.reduceLeDiff, Nat.reduceAdd, Nat.reduceMul, Nat.reduceSub, Nat.reduceBEq, ↓reduceIte, reduceCtorEq]⟩) ?_; simp -implicitDefEqProofs (maxSteps := 2000000) only [push_cast, Nat.reduceEqDiff, Nat.reduceLT, Nat.reduceLeDiff, Nat.reduceAdd, Nat.reduceMul, Nat.reduceSub, Nat.reduceBEq, ↓reduceIte, reduceCtorEq]; with_reducible refine Keep.wk (ids := [some 0, some 1, some 2, some 3, some 4, some 5]) ?_; simp only [push_cast, Nat.reduceEqDiff, Nat.reduceLT, Nat.reduceLeDiff, Nat.reduceAdd, Nat.reduceMul, Nat.reduceSub, Nat.reduceBEq, ↓reduceIte, reduceCtorEq] <;> first | rfl | trivial; done)
            | (subst hK; refine ⟨(), trivial, Keep.wk (ids := [some 0, some 1, some 2, some 3, some 6]) ?_⟩; simp only [push_cast, Nat.reduceEqDiff, Nat.reduceLT, Nat.reduceLeDiff, Nat.reduceAdd, Nat.reduceMul, Nat.reduceSub, Nat.reduceBEq, ↓reduceIte, reduceCtorEq] <;> first | rfl | trivial; done)
            | fail
        · have hS : stB k G b q2 st = st := if_neg (by omega)
          have hP : stP k G b q2 = q2 := if_neg (by omega)
          rw [hS, hP]
          refine ⟨(), Keep.wk (ids := [some 0, some 1, some 2, some 3, some 4]) ?_⟩
          simp only [push_cast, Nat.reduceEqDiff, Nat.reduceLT, Nat.reduceLeDiff, Nat.reduceAdd, Nat.reduceMul, Nat.reduceSub, Nat.reduceBEq, ↓reduceIte, reduceCtorEq] <;> first | rfl | trivial
    · rw [if_neg (show ¬ (k : Int) % 4 = 2 by omega)]
      have hS : stB k G b q2 st = st := if_neg (by omega)
      have hP : stP k G b q2 = q2 := if_neg (by omega)
      rw [hS, hP]
      refine ⟨(), Keep.wk (ids := [some 0, some 1, some 2, some 3, some 4]) ?_⟩
      simp only [push_cast, Nat.reduceEqDiff, Nat.reduceLT, Nat.reduceLeDiff, Nat.reduceAdd, Nat.reduceMul, Nat.reduceSub, Nat.reduceBEq, ↓reduceIte, reduceCtorEq] <;> first | rfl | trivial
  simp -implicitDefEqProofs (maxSteps := 2000000) only [push_cast, Nat.reduceEqDiff, Nat.reduceLT, Nat.reduceLeDiff, Nat.reduceAdd, Nat.reduceMul, Nat.reduceSub, Nat.reduceBEq, ↓reduceIte, reduceCtorEq]
  exact ⟨by omega, by omega, by unfold inI64; omega, by unfold inI64; omega, Close.of [some 3, some 4] rfl rfl rfl (by simp only [push_cast, Nat.reduceEqDiff, Nat.reduceLT, Nat.reduceLeDiff, Nat.reduceAdd, Nat.reduceMul, Nat.reduceSub, Nat.reduceBEq, ↓reduceIte, reduceCtorEq] <;> rfl) (by simp only [push_cast, Nat.reduceEqDiff, Nat.reduceLT, Nat.reduceLeDiff, Nat.reduceAdd, Nat.reduceMul, Nat.reduceSub, Nat.reduceBEq, ↓reduceIte, reduceCtorEq] <;> rfl)⟩
end Go.Proofs.Ytmgdkkhnjkepiaa.BX
namespace Go.Proofs.Ytmgdkkhnjkepiaa.BX
set_option linter.unusedSectionVars false
set_option linter.unusedSimpArgs false
set_option linter.unusedVariables false
open Go Go.RowKit
set_option maxRecDepth 20000
set_option maxHeartbeats 400000
def ShortS (s : List Entry) : Prop := ∀ e ∈ s, e.typ.length ≤ 6
theorem spoilL_short {k : Nat} {s : List Entry} (h : ShortS s) : ShortS (spoilL k s) := by
  unfold spoilL
  split
  · unfold spoilOut
    split
    · rename_i e he
      intro x hx
      rcases List.mem_append.1 hx with hx | hx
      · exact h x hx
      · rw [List.mem_singleton.1 hx]; exact h e (List.mem_of_getElem? he)
    · intro x hx; rw [List.mem_singleton.1 hx]; decide
  · unfold spoilIn
    split
    · rename_i e he
      intro x hx
      rcases List.mem_or_eq_of_mem_set hx with hx | rfl
      · exact h x hx
      · split
        · exact h e (List.mem_of_getElem? he)
        · exact (by decide : (2 : Nat) ≤ 6)
    · exact h
theorem drawL_short {b : List UInt8} {p : Nat} : ShortS (drawL b p).1 := drS_drawL.2.2.2
theorem anyL_short {b : List UInt8} {p : Nat} : ShortS (anyL b p).1 := by
  unfold anyL
  split
  · exact spoilL_short drawL_short
  · exact drawL_short
theorem moreG_short {gs : List Group} (h : ShortG gs) : ∀ {i : Nat}, ShortG (moreG gs i)
  | 0 => h
  | i + 1 => by
    intro g hg
    rcases List.mem_append.1 (show g ∈ moreG gs i ++ _ from hg) with hg | hg
    · exact moreG_short h g hg
    · rw [List.mem_singleton.1 hg]; intro e he; cases he
theorem wideTo_short {gs : List Group} (h : ShortG gs) : ∀ {i : Nat}, ShortG (wideTo gs i)
  | 0 => h
  | i + 1 => by
    intro g hg
    rcases List.mem_append.1 (show g ∈ wideTo gs i ++ _ from hg) with hg | hg
    · exact wideTo_short h g hg
    · rw [List.mem_singleton.1 hg]; intro e he; rw [List.mem_singleton.1 he]; exact (by decide : (1 : Nat) ≤ 6)
theorem spoilG_short {k x : Nat} {gs : List Group} (h : ShortG gs) : ShortG (spoilG k gs x) := by
  unfold spoilG
  split
  · rename_i g hg
    have hm := h g (List.mem_of_getElem? hg)
    intro y hy
    rcases List.mem_or_eq_of_mem_set hy with hy | rfl
    · exact h y hy
    · split
      · exact hm
      · exact spoilL_short hm
  · exact h
theorem tailG_short {k : Nat} {gs : List Group} (h : ShortG gs) : ShortG (tailG k gs) := by
  unfold tailG
  split
  · exact moreG_short h
  · intro g hg
    rcases List.mem_append.1 hg with hg | hg
    · exact h g hg
    · rw [List.mem_singleton.1 hg]; intro e he; rw [List.mem_singleton.1 he]; decide
theorem spoilS_short {b : List UInt8} {p : Nat} {gs : List Group} (h : ShortG gs) : ShortG (spoilS b p gs).1 := by
  unfold spoilS
  split
  · exact spoilG_short h
  · split
    · exact spoilG_short h
    · exact tailG_short h
theorem saveG_none {gs : List Group} {s : List Entry} {near : Int} (h : saveN gs s < 0) : saveG gs s near = [] := by
  unfold saveN at h
  unfold saveG
  split
  · rename_i h1
    rw [if_pos h1] at h
    split
    · rename_i h2; rw [if_pos h2] at h; omega
    · rename_i h2
      rw [if_neg h2] at h
      split
      · rfl
      · rename_i h3; rw [if_neg h3] at h; omega
  · rfl
section
variable [Bd]
theorem anyS_short {b : List UInt8} {p : Nat} (hp : p ≤ b.length) : ShortG (anyS b p).1 := by
  unfold anyS
  have := (dsOf_I (np_le hp) (b := b)).2.2.2.1
  split
  · exact spoilS_short this
  · exact this
theorem dvG_short {b : List UInt8} : ShortG (dvG b) := by
  unfold dvG wideG
  split
  · exact wideTo_short fun g hg => by rw [List.mem_singleton.1 hg]; intro e he; cases he
  · exact anyS_short (np_le (by omega))
theorem dvS_short {b : List UInt8} : ShortS (dvS b) := by
  unfold dvS stB stA
  have hE : ∀ i, ShortS (expandOf (dvG b) i) := fun i => expandOf_short dvG_short i
  split
  · intro x hx
    rcases setL_mem hx with hx | rfl
    · exact hE _ x hx
    · exact slotAt_len
  · split
    · exact hE _
    · exact anyL_short
end
variable [Bd]
theorem sameState (a b : List Entry) : Con P0 10 [eEntryS a, eEntryS b] (.t (.b (decide (a = b)))) [] := by
  refine Con.intro (fn := Try.f10) [.tmp 4] (fun _ => (0, [])) mixed (by kernel_rfl) rfl (by decide) rfl (by rfl) (by kernel_rfl) ?_
  simp -implicitDefEqProofs (maxSteps := 2000000) only [push_cast, Nat.reduceEqDiff, Nat.reduceLT, Nat.reduceLeDiff, Nat.reduceAdd, Nat.reduceMul, Nat.reduceSub, Nat.reduceBEq, ↓reduceIte, reduceCtorEq]
  refine Callx.closed (l4Equal a b) rfl rfl (.inl rfl) ?_
  simp -implicitDefEqProofs (maxSteps := 2000000) only [push_cast, Nat.reduceEqDiff, Nat.reduceLT, Nat.reduceLeDiff, Nat.reduceAdd, Nat.reduceMul, Nat.reduceSub, Nat.reduceBEq, ↓reduceIte, reduceCtorEq]
theorem mxCode {c : List UInt8} : (T.sl (c.map eU8)).mx = c.length := by
  have : ∀ (l : List UInt8), mxs (l.map eU8) = 0 := by
    intro l
    induction l with
    | nil => rfl
    | cons x l ih => simp only [List.map_cons, mxs, ih, eU8, T.mx, Nat.max_self]
  simp only [T.mx, this, List.length_map]
  omega
theorem lawFnGroups (c : List UInt8) (hB : mxs [.sl (c.map eU8)] ≤ 1048576 → Bd.B ≤ 2147483648) : Con P0 3 [.sl (c.map eU8)] (.t (.b true)) [] := by
  refine Con.intro (fn := Try.f3) [.tmp 2] (fun i => if i = 24 then (20, []) else (0, [])) mixed (by kernel_rfl) rfl (by decide) rfl (by rfl) (by kernel_rfl) ?_
  simp -implicitDefEqProofs (maxSteps := 2000000) only [push_cast, Nat.reduceEqDiff, Nat.reduceLT, Nat.reduceLeDiff, Nat.reduceAdd, Nat.reduceMul, Nat.reduceSub, Nat.reduceBEq, ↓reduceIte, reduceCtorEq]
  intro hlen
  refine iteI (fun h => trivial) (fun h => ?_)
  have hB := hB (mxs_cons (by rw [mxCode]; omega) mxs_nil)
  have dS := drawSave c hB
  have hsh := dvS_short (b := c.take 1000)
  refine Callx.closed dS rfl rfl (.inl rfl) ?_
  generalize dvS (c.take 1000) = s at *
  generalize dvG (c.take 1000) = gs at *
  generalize dvN (c.take 1000) = near at *
  simp -implicitDefEqProofs (maxSteps := 2000000) only [push_cast, Nat.reduceEqDiff, Nat.reduceLT, Nat.reduceLeDiff, Nat.reduceAdd, Nat.reduceMul, Nat.reduceSub, Nat.reduceBEq, ↓reduceIte, reduceCtorEq]
  refine Callx.closed (specSave gs s near hB) rfl rfl (.inr ⟨rfl, rfl⟩) ?_
  simp -implicitDefEqProofs (maxSteps := 2000000) only [push_cast, Nat.reduceEqDiff, Nat.reduceLT, Nat.reduceLeDiff, Nat.reduceAdd, Nat.reduceMul, Nat.reduceSub, Nat.reduceBEq, ↓reduceIte, reduceCtorEq]
  refine Callx.closed dS rfl rfl (.inl rfl) ?_
  simp -implicitDefEqProofs (maxSteps := 2000000) only [push_cast, Nat.reduceEqDiff, Nat.reduceLT, Nat.reduceLeDiff, Nat.reduceAdd, Nat.reduceMul, Nat.reduceSub, Nat.reduceBEq, ↓reduceIte, reduceCtorEq]
  refine Callx.closed (implSave gs s near hB) rfl rfl (.inr ⟨rfl, rfl⟩) ?_
  simp -implicitDefEqProofs (maxSteps := 2000000) only [push_cast, Nat.reduceEqDiff, Nat.reduceLT, Nat.reduceLeDiff, Nat.reduceAdd, Nat.reduceMul, Nat.reduceSub, Nat.reduceBEq, ↓reduceIte, reduceCtorEq]
  refine iteI (fun hn => ?_) (fun hn => ?_)
  · intro _
    rw [saveG_none hn]; rfl
  obtain ⟨hg, hst, hk, hN, hx, hle, hkeep⟩ := save_kept (near := near) (Int.not_lt.1 hn)
  have h0 : 0 ≤ saveN gs s := Int.not_lt.1 hn
  have hin := fun (e : Entry) (he : e ∈ s) => look_in hk h0 hN hx hst he
  have hout := look_out hk h0 hN hx (k := ([110, 111, 32, 115, 117, 99, 104, 32, 116, 121, 112, 101], [])) (fun e he hh => by
    have h1 := hsh e he
    have h2 : e.typ = [110, 111, 32, 115, 117, 99, 104, 32, 116, 121, 112, 101] := congrArg Prod.fst hh
    rw [h2] at h1
    exact absurd h1 (by decide))
  have hgl := (storeUps hg).1
  have hGl := (storeUps hk).1
  have hsl := state_len hst
  generalize saveG gs s near = G at *
  generalize saveN gs s = m at *
  have iE := implExpand G m hB
  have hok : exOk G m = true := by unfold exOk; rw [hk, Bool.true_and]; exact decide_eq_true ⟨h0, hN⟩
  rw [show exRes G m = s by unfold exRes; rw [if_pos hok, hx], hok] at iE
  refine Callx.closed iE rfl rfl (.inr ⟨rfl, rfl⟩) ?_
  simp -implicitDefEqProofs (maxSteps := 2000000) only [push_cast, Nat.reduceEqDiff, Nat.reduceLT, Nat.reduceLeDiff, Nat.reduceAdd, Nat.reduceMul, Nat.reduceSub, Nat.reduceBEq, ↓reduceIte, reduceCtorEq]
  have iS := implStoreOk G hB
  rw [hk] at iS
  refine Callx.closed iS rfl rfl (.inr ⟨rfl, rfl⟩) ?_
  simp -implicitDefEqProofs (maxSteps := 2000000) only [push_cast, Nat.reduceEqDiff, Nat.reduceLT, Nat.reduceLeDiff, Nat.reduceAdd, Nat.reduceMul, Nat.reduceSub, Nat.reduceBEq, ↓reduceIte, reduceCtorEq]
  have ss := sameState s s
  rw [decide_eq_true rfl] at ss
  refine Callx.closed ss rfl rfl (.inr ⟨rfl, rfl⟩) ?_
  simp -implicitDefEqProofs (maxSteps := 2000000) only [push_cast, Nat.reduceEqDiff, Nat.reduceLT, Nat.reduceLeDiff, Nat.reduceAdd, Nat.reduceMul, Nat.reduceSub, Nat.reduceBEq, ↓reduceIte, reduceCtorEq]
  refine WL.loop (ι := Nat) (D := (fun i => if i = 24 then (20, []) else (0, []))) (fun i => i ≤ gs.length) (fun i => ⟨170, [(3, .rf 2 0), (4, .sr 1), (11, .rf 4 0), (12, .t (.i .i64 m)), (15, .t (.i .i64 i))], [grO gs, enO s, .box (.ag [.sr 0]), grO G, .box (.ag [.sr 3])]⟩) (fun i => gs.length - i) mixed (by kernel_rfl) 0 (by omega) (Keep.wk (ids := [some 0, some 1, some 2, some 8, some 9]) ?_) ?_
  · simp only [push_cast, Nat.reduceEqDiff, Nat.reduceLT, Nat.reduceLeDiff, Nat.reduceAdd, Nat.reduceMul, Nat.reduceSub, Nat.reduceBEq, ↓reduceIte, reduceCtorEq] <;> first | rfl | exact ⟨rfl, rfl⟩ | trivial
  intro i hi
  simp -implicitDefEqProofs (maxSteps := 2000000) only [push_cast, Nat.reduceEqDiff, Nat.reduceLT, Nat.reduceLeDiff, Nat.reduceAdd, Nat.reduceMul, Nat.reduceSub, Nat.reduceBEq, ↓reduceIte, reduceCtorEq]
  intro _
  have := Bd.lo
  refine iteI (fun h1 => ?_) (fun h1 => ?_)
  · have sE := specExpand gs i hB
    have hoki : exOk gs i = true := by unfold exOk; rw [hg, Bool.true_and]; exact decide_eq_true ⟨by omega, by omega⟩
    rw [show exRes gs i = expandOf gs i by unfold exRes; rw [if_pos hoki, Int.toNat_natCast], hoki] at sE
    refine Callx.closed sE rfl rfl (.inr ⟨rfl, rfl⟩) ?_
    simp -implicitDefEqProofs (maxSteps := 2000000) only [push_cast, Nat.reduceEqDiff, Nat.reduceLT, Nat.reduceLeDiff, Nat.reduceAdd, Nat.reduceMul, Nat.reduceSub, Nat.reduceBEq, ↓reduceIte, reduceCtorEq]
    have iX := implExpand G i hB
    have hokX : exOk G i = true := by unfold exOk; rw [hk, Bool.true_and]; exact decide_eq_true ⟨by omega, by omega⟩
    rw [show exRes G i = expandOf gs i by unfold exRes; rw [if_pos hokX, Int.toNat_natCast, hkeep i (by omega)], hokX] at iX
    refine Callx.closed iX rfl rfl (.inr ⟨rfl, rfl⟩) ?_
    simp -implicitDefEqProofs (maxSteps := 2000000) only [push_cast, Nat.reduceEqDiff, Nat.reduceLT, Nat.reduceLeDiff, Nat.reduceAdd, Nat.reduceMul, Nat.reduceSub, Nat.reduceBEq, ↓reduceIte, reduceCtorEq]
    have sX := sameState (expandOf gs i) (expandOf gs i)
    rw [decide_eq_true rfl] at sX
    refine Callx.closed sX rfl rfl (.inr ⟨rfl, rfl⟩) ?_
    simp -implicitDefEqProofs (maxSteps := 2000000) only [push_cast, Nat.reduceEqDiff, Nat.reduceLT, Nat.reduceLeDiff, Nat.reduceAdd, Nat.reduceMul, Nat.reduceSub, Nat.reduceBEq, ↓reduceIte, reduceCtorEq]
    refine ⟨by unfold inI64; omega, i + 1, by omega, by omega, Keep.wk (ids := [some 0, some 1, some 2, some 3, some 4]) ?_⟩
    simp only [push_cast, Nat.reduceEqDiff, Nat.reduceLT, Nat.reduceLeDiff, Nat.reduceAdd, Nat.reduceMul, Nat.reduceSub, Nat.reduceBEq, ↓reduceIte, reduceCtorEq] <;> first | rfl | exact ⟨rfl, rfl⟩ | trivial
  clear h1 hi
  refine WL.loop (ι := Nat) (D := (fun i => if i = 24 then (20, []) else (0, []))) (fun i => i ≤ s.length) (fun i => ⟨170, [(4, .sr 0), (11, .rf 2 0), (12, .t (.i .i64 m)), (20, .t (.i .i64 i))], [enO s, grO G, .box (.ag [.sr 1])]⟩) (fun i => s.length - i) mixed (by kernel_rfl) 0 (by omega) (Keep.wk (ids := [some 1, some 3, some 4]) ?_) ?_
  · simp only [push_cast, Nat.reduceEqDiff, Nat.reduceLT, Nat.reduceLeDiff, Nat.reduceAdd, Nat.reduceMul, Nat.reduceSub, Nat.reduceBEq, ↓reduceIte, reduceCtorEq] <;> first | rfl | exact ⟨rfl, rfl⟩ | trivial
  clear i
  intro i hi
  simp -implicitDefEqProofs (maxSteps := 2000000) only [push_cast, Nat.reduceEqDiff, Nat.reduceLT, Nat.reduceLeDiff, Nat.reduceAdd, Nat.reduceMul, Nat.reduceSub, Nat.reduceBEq, ↓reduceIte, reduceCtorEq, eEntry]
  intro _
  refine iteI (fun h1 => ?_) (fun h1 => ?_)
  · refine ⟨by omega, by omega, fun x hx' => ?_⟩
    rw [Int.toNat_natCast] at hx'
    refine ⟨by omega, by omega, fun y hy => ?_⟩
    rw [Int.toNat_natCast, hx'] at hy
    cases hy
    obtain ⟨q1, q2, q3, q4⟩ := hin x (List.mem_of_getElem? hx')
    have lk := implLookup G m x.typ x.key hB
    rw [show ((x.typ, x.key) : SlotK) = x.slot from rfl] at lk
    obtain ⟨⟨r1, r2, r3⟩, hr⟩ : ∃ r, lkOf G x.slot m = r := ⟨_, rfl⟩
    rw [hr] at lk q1 q2 q3 q4
    simp only at q1 q2 q3 q4
    subst q1 q2
    refine CallV.t lk (.inr rfl) ?_
    simp -implicitDefEqProofs (maxSteps := 2000000) only [push_cast, Nat.reduceEqDiff, Nat.reduceLT, Nat.reduceLeDiff, Nat.reduceAdd, Nat.reduceMul, Nat.reduceSub, Nat.reduceBEq, ↓reduceIte, reduceCtorEq, lkT, eEntry]
    refine ⟨by omega, by omega, fun y hy => ?_⟩
    rw [Int.toNat_natCast, hx'] at hy
    cases hy
    rw [if_neg (by simp), if_neg (by omega), if_neg (by omega)]
    refine ⟨by unfold inI64; omega, i + 1, by omega, by omega, Keep.wk (ids := [some 0, some 1, some 2]) ?_⟩
    simp only [push_cast, Nat.reduceEqDiff, Nat.reduceLT, Nat.reduceLeDiff, Nat.reduceAdd, Nat.reduceMul, Nat.reduceSub, Nat.reduceBEq, ↓reduceIte, reduceCtorEq] <;> first | rfl | exact ⟨rfl, rfl⟩ | trivial
  obtain ⟨q2, q3, q4⟩ := hout
  have lk := implLookup G m [110, 111, 32, 115, 117, 99, 104, 32, 116, 121, 112, 101] [] hB
  obtain ⟨⟨r1, r2, r3⟩, hr⟩ : ∃ r, lkOf G ([110, 111, 32, 115, 117, 99, 104, 32, 116, 121, 112, 101], []) m = r := ⟨_, rfl⟩
  rw [hr] at lk q2 q3 q4
  simp only at q2 q3 q4
  subst q2
  refine Callx.closed lk rfl rfl (.inr ⟨rfl, rfl⟩) ?_
  simp -implicitDefEqProofs (maxSteps := 2000000) only [push_cast, Nat.reduceEqDiff, Nat.reduceLT, Nat.reduceLeDiff, Nat.reduceAdd, Nat.reduceMul, Nat.reduceSub, Nat.reduceBEq, ↓reduceIte, reduceCtorEq, lkT]
  rw [if_pos (by omega)]
  exact congrArg T.b (decide_eq_true (by omega))
end Go.Proofs.Ytmgdkkhnjkepiaa.BX
