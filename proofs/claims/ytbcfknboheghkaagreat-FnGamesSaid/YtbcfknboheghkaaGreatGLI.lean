/- Contracts of the program's table: what only reads. No condition. -/
import Derived.Test.YtbcfknboheghkaaGreatGLH
import Derived.Test.YtbcfknboheghkaaGreatGVV
import Derived.Test.YtbcfknboheghkaaGreatGLL
import Derived.Test.YtbcfknboheghkaaGreatZabG8
import Derived.Test.YtbcfknboheghkaaGreatGAA
import Derived.Test.YtbcfknboheghkaaGreatGGM
namespace Go.Proofs.YtbcfknboheghkaaGreat
open Go.Ab

/- (*loop.example/g01343/impl.table).right -/
/- (*loop.example/g01343/impl.table).key -/
/- (*loop.example/g01343/impl.table).isLess -/
/- (*loop.example/g01343/impl.table).isLess$1 -/
/- (*loop.example/g01343/impl.table).least -/
/- (*loop.example/g01343/impl.table).enterBy -/
/- (*loop.example/g01343/impl.table).enterBy$1 -/
/- (*loop.example/g01343/impl.table).partner -/
/- slices.CompareFunc[[]int64,[]int64,int64,int64] -/
/-- A table's variable. -/
structure TK (H : Heap) (b : Nat) (u : Value) (d : Int) (w : Value) (n : Nat) : Prop where
  lt : b < H.next
  blk : ∃ ty e, H.blk b = some ⟨[u, .int .i64 d, w, .int .i64 (n : Nat)], ty, e, false⟩

section
variable {H H' : Heap} {b n : Nat} {u w : Value} {d : Int} {K : Post}

end

/-- Rows of a table: n rows of 2 n + 1 numbers that are not too large. -/
structure RowsT (n : Nat) (rows : List (List Int)) : Prop where
  n5 : n ≤ 5
  rl : rows.length = n
  rw : ∀ r ∈ rows, r.length = 2 * n + 1
  ab : ∀ i c, i < n → c < 2 * n + 1 → (mAt rows i c).natAbs ≤ 384000000

section
variable {n : Nat} {rows : List (List Int)}

def keyL (n : Nat) (rows : List (List Int)) (i : Nat) : List Int := mAt rows i (2 * n) :: (rows.getD i []).take n

end

section
variable {H0 : Heap} {Q : Post} {b n : Nat} {u w : Value} {d : Int} {rows : List (List Int)} {bas : List Int}

end
end Go.Proofs.YtbcfknboheghkaaGreat
/-! Contracts of the program's first table, steps and values. No condition. -/
namespace Go.Proofs.YtbcfknboheghkaaGreat
open Go.Ab

/- loop.example/g01343/impl.newTable -/
/- (*loop.example/g01343/impl.table).step -/
/- (*loop.example/g01343/impl.table).values -/
def rowE (g : Game) (i : Nat) : List Int := (List.range (2 * nG g + 1)).map fun c => lhE g i c
def bas0 (n : Nat) : List Int := (List.range n).map fun i => ((i : Nat) : Int)

/-! ### Steps -/

/-! ### Values -/

def vTo (s : LhS) (n : Nat) : Nat → List Int
  | 0 => List.replicate (2 * n) 0
  | i + 1 => (vTo s n i).set (basF s i) (mAt s.rows i (2 * n))

end Go.Proofs.YtbcfknboheghkaaGreat

/-! The contract of the program's LemkeHowson. No condition. -/
namespace Go.Proofs.YtbcfknboheghkaaGreat
open Go.Ab

/- loop.example/g01343/impl.LemkeHowson -/
end Go.Proofs.YtbcfknboheghkaaGreat
