/- The parts of a tree, each before its own; those without parts. -/
import Derived.Test.YtdjcjkpodggdpaaGreatDoorBDepth
namespace Go.Proofs.YtdjcjkpodggdpaaGreatDoor
open Go.RowKit

mutual
/-- All parts, each before its own. -/
def preB : PartT → List PartT
  | .mk f t p b ps => .mk f t p b ps :: presB ps
def presB : List PartT → List PartT
  | [] => []
  | q :: qs => preB q ++ presB qs
end
def isLeaf (q : PartT) : Bool := q.ps.isEmpty
/-- The parts without parts. -/
def leavesB (q : PartT) : List PartT := (preB q).filter isLeaf
end Go.Proofs.YtdjcjkpodggdpaaGreatDoor
