/- The walk of TargetWorks. -/
import Derived.Test.YtefnlmiephombaaTk
import Derived.Test.YtefnlmiephombaaTs
namespace Go.Proofs.Ytefnlmiephombaa
open Go.RowKit Go.Sort

set_option maxRecDepth 100000 in
theorem works_vast (t : Int) (bs : List Int) (p : Option Addr) (len cap : Nat) (h : 300 < len) (w : World)
    (k41 : ∀ w, Calls Try.prog 41 #[] w fun e w' => e = .returned (.bool true) ∧ Below w.heap.size w w') :
    Calls Try.prog 13 #[big t, hsh bs, .slice p len cap] w fun e w' => e = .returned (.bool true) ∧ Below w.heap.size w w' := by
  have hl0 : (300 < (len : Int)) := by omega
  unfold big hsh
  go_enter Try.func13, Try.ntmps13
  go_wp2_with (go_at_call 41; with_reducible refine (k41 _).mono ?_; rintro e w1 ⟨rfl, hb1⟩)
  go_ret
  exact ⟨rfl, bel_call (bel_alloc (bel_alloc (Below.refl _ _) _) _) hb1⟩

theorem targetWorks.walk (t : Int) (bs : List Int) (p : Option Addr) (len cap : Nat) (N : Nat → Int) (ht : 0 ≤ t) (ht' : t < M) (hl : bs.length = 32) (hbs : Bytes bs) (w : World) (hN : BigsOf w p len cap N) :
    Calls Try.prog 13 #[big t, hsh bs, .slice p len cap] w fun e w' => e = .returned (.bool true) ∧ Below w.heap.size w w' := by
  by_cases h3 : 300 < len
  · exact works_vast t bs p len cap h3 w works3_c
  have k36 := rtohash_c t
  rw [m_of t ht ht'] at k36
  have kn := tmeets_c (toBytes t) t (toBytes_length t) (toBytes_bytes t) ht ht'
  have hme : meetv (toBytes t) t = !(t == 0) := by
    have h := ofBytes_toBytes t
    rw [m_of t ht ht'] at h
    unfold meetv
    rw [h, decide_eq_false (by omega)]; simp
  rw [hme] at kn
  have n3 : ∀ w, (binOp .neq 24 (big t) (.agg #[.int .u64 0, .int .u64 0, .int .u64 0, .int .u64 0])).run Try.prog w = .ok (.bool (!(t == 0))) w := fun w => by
    have := neq_run t 0 w
    rwa [m_of t ht ht', show m 0 = 0 from rfl] at this
  rcases hN with ⟨rfl, rfl, rfl⟩ | ⟨a, g, o, rfl, ha, hg⟩
  · exact works_nil bs (toBytes t) t (sumN (fun _ => 0) 0) (workv t) (sumO (fun _ => 0) 0) (meetv bs t) (!(t == 0)) hl (toBytes_length t) w
      (fun B v w h => tsum_v B 0 (fun _ => 0) v (by omega) w h)
      (fun w _ => rsum_c none 0 0 0 0 (fun _ => 0) (by omega) (by omega) w (fun i hi => by omega))
      k36 (twork_c t ht ht') (rwork_c t ht ht') (tmeets_c bs t hl hbs ht ht') (rmeets_c bs t hl hbs ht ht') kn works3_c (eq_self _) (eq_self _) n3
  · exact works_some bs (toBytes t) t (sumN N len) (workv t) (sumO N len) (meetv bs t) (!(t == 0)) a g o len cap N hl (toBytes_length t) w (by omega) ha hg
      (fun B v w h => tsum_v B len N v (by omega) w h)
      (fun w h => rsum_c (some a) g o len cap N (fun h0 => by rw [ha h0]) (by omega) w h)
      k36 (twork_c t ht ht') (rwork_c t ht ht') (tmeets_c bs t hl hbs ht ht') (rmeets_c bs t hl hbs ht ht') kn works3_c (eq_self _) (eq_self _) n3
end Go.Proofs.Ytefnlmiephombaa
