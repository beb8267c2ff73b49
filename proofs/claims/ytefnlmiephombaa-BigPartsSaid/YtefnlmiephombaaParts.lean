/- The walk of BigParts. -/
import Derived.Test.YtefnlmiephombaaPw
import Derived.Test.YtefnlmiephombaaRg
namespace Go.Proofs.Ytefnlmiephombaa
open Go.RowKit Go.Sort

theorem bigParts.walk (x y n : Int) (hx : 0 ≤ x) (hx' : x < M) (hy : 0 ≤ y) (hy' : y < M) (hn : -9223372036854775808 ≤ n) (hn' : n ≤ 9223372036854775807) (w : World) :
    Calls Try.prog 3 #[big x, big y, .int .i64 n] w fun e w' => e = .returned (.bool true) ∧ Below w.heap.size w w' :=
  have _ := hx; have _ := hx'; have _ := hy; have _ := hy'; have _ := hn
  parts_w x y n (if m y = 0 then 0 else m x / m y) (if m y = 0 then 0 else m x % m y) (divErr y) (upv x n) (downv x n) w (div_c x y) (rdiv_c x y) (up_c x n hn') (rup_c x n) (down_c x n) (rdown_c x n)
end Go.Proofs.Ytefnlmiephombaa
