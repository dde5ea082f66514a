/- Lists that have the numbers 0 to n - 1, each once. -/
namespace Go.Ab

def isOrd (n : Nat) (l : List Int) : Bool := decide (l.length = n) && (List.range n).all (fun i => l.contains (i : Int))

end Go.Ab
