/- DiskFuse's plain law: how a disk with a fuse goes from call to call. -/
import Derived.Test.YtfohemgfiidokaaDu
namespace Go.Proofs.Ytfohemgfiidokaa
open Go.RowKit Go.Sort

def Sz (F : Fil) (k : Nat) : Prop := F.s.length + sizes F.l ≤ k ∧ F.l.length ≤ k
theorem sizes_snoc (c : Chg) : ∀ l : List Chg, sizes (l ++ [c]) = sizes l + c.size
  | [] => by simp [sizes]
  | a :: t => by simp only [List.cons_append, sizes, sizes_snoc c t]; omega
theorem Sz.put {F : Fil} {k : Nat} (h : Sz F k) (c : Chg) (hc : c.size ≤ 1) : Sz ⟨F.s, F.l ++ [c]⟩ (k + 1) := by
  obtain ⟨h1, h2⟩ := h
  refine ⟨?_, by simp; omega⟩
  show F.s.length + sizes (F.l ++ [c]) ≤ k + 1
  rw [sizes_snoc]
  omega
theorem Sz.up {F : Fil} {k m : Nat} (h : Sz F k) (hm : k ≤ m) : Sz F m := ⟨by have := h.1; omega, by have := h.2; omega⟩
theorem stands_len (F : Fil) : F.stands.length ≤ F.s.length + sizes F.l := kept_len F.l F.s _
theorem Sz.settled {F : Fil} {k : Nat} (h : Sz F k) : Sz ⟨F.stands, []⟩ (k + 1) := by
  have := stands_len F
  have := h.1
  refine ⟨by show F.stands.length + sizes [] ≤ _; simp only [sizes]; omega, by simp⟩

structure FI (n : Int) (k : Nat) (d : Dk) : Prop where
  most : d.most = 4096
  fused : d.fused = true
  on : (k : Int) ≤ n → d.off = false ∧ d.left = n - k
  gone : n < k → d.off = true
  z0 : Sz d.f0 k
  z1 : Sz d.f1 k
theorem FI.ok {n : Int} {k : Nat} {d : Dk} (h : FI n k d) (hk : k ≤ 1024) : DOk d := by
  have h0 := h.z0; have h1 := h.z1; have hm := h.most
  exact ⟨⟨by have := h0.1; omega, by have := h0.2; omega⟩, ⟨by have := h1.1; omega, by have := h1.2; omega⟩, by omega, by omega⟩
theorem FI.room {n : Int} {k : Nat} {d : Dk} (h : FI n k d) (hk : k ≤ 1024) : 1 ≤ roomF d := by
  have h0 := h.z0.1; have h1 := h.z1.1; have hm := h.most
  have a := stands_len d.f0; have b := stands_len d.f1
  unfold roomF
  omega
def fres (n : Int) (k : Nat) : Int := if (k : Int) < n then 0 else 8
/-- a call that goes, with whatever it does to the files -/
theorem FI.goes {n : Int} {k : Nat} {d : Dk} (h : FI n k d) (hn : n ≤ 255) (hk : (k : Int) ≤ n) (g : Dk → Dk) (h1 : (g d.tick).most = 4096) (h2 : (g d.tick).fused = true) (h3 : (g d.tick).off = false) (h4 : (g d.tick).left = d.tick.left) (h5 : Sz (g d.tick).f0 (k + 1)) (h6 : Sz (g d.tick).f1 (k + 1)) :
    ∃ d', d.goes g = (fres n k, d') ∧ FI n (k + 1) d' := by
  obtain ⟨o1, o2⟩ := h.on hk
  unfold Dk.goes fres
  by_cases hkn : (k : Int) < n
  · rw [if_neg (by intro e; omega), if_pos hkn]
    refine ⟨_, rfl, h1, h2, fun _ => ⟨h3, ?_⟩, fun e => by omega, h5, h6⟩
    rw [h4]
    show IntKind.i64.wrap (d.left - 1) = _
    rw [IntKind.wrap_i64]
    omega
  · rw [if_pos ⟨h.fused, by omega⟩, if_neg hkn]
    exact ⟨_, rfl, h.most, h.fused, fun e => by omega, fun _ => rfl, h.z0.up (by omega), h.z1.up (by omega)⟩
theorem FI.no {n : Int} {k : Nat} {d : Dk} (h : FI n k d) (hk : n < k) (f : Int) : mayv d.off f = 8 ∧ fres n k = 8 ∧ FI n (k + 1) d := by
  have ho := h.gone hk
  refine ⟨by rw [ho]; rfl, by unfold fres; rw [if_neg (by omega)], h.most, h.fused, fun e => by omega, fun _ => ho, h.z0.up (by omega), h.z1.up (by omega)⟩
theorem FI.may {n : Int} {k : Nat} {d : Dk} (h : FI n k d) (hk : (k : Int) ≤ n) (f : Int) (hf : f = 0 ∨ f = 1) : mayv d.off f = 0 := by
  rw [(h.on hk).1]
  unfold mayv
  rw [if_neg (by simp), if_neg (by omega)]
theorem tick_most (d : Dk) : d.tick.most = d.most ∧ d.tick.fused = d.fused ∧ d.tick.off = d.off ∧ d.tick.f0 = d.f0 ∧ d.tick.f1 = d.f1 := ⟨rfl, rfl, rfl, rfl, rfl⟩
theorem FI.write {n : Int} {k : Nat} {d : Dk} (h : FI n k d) (hk : k ≤ 1024) (hn : n ≤ 255) (f : Int) (hf : f = 0 ∨ f = 1) (b : Int) : ∃ d', d.write f [b] = (fres n k, d') ∧ FI n (k + 1) d' := by
  unfold Dk.write
  by_cases hkn : (k : Int) ≤ n
  · rw [if_neg (by rw [h.may hkn f hf]; simp), if_neg (by have := h.room hk; simp; omega)]
    have ho := (h.on hkn).1
    rcases hf with rfl | rfl
    · exact h.goes hn hkn _ h.most h.fused ho rfl (h.z0.put _ (by simp [Chg.size])) (h.z1.up (by omega))
    · exact h.goes hn hkn _ h.most h.fused ho rfl (h.z0.up (by omega)) (h.z1.put _ (by simp [Chg.size]))
  · obtain ⟨h1, h2, h3⟩ := h.no (by omega) f
    rw [if_pos (by rw [h1]; simp), h1, h2]
    exact ⟨_, rfl, h3⟩
theorem FI.cut {n : Int} {k : Nat} {d : Dk} (h : FI n k d) (hn : n ≤ 255) (f : Int) (hf : f = 0 ∨ f = 1) : ∃ d', d.cut f 0 = (fres n k, d') ∧ FI n (k + 1) d' := by
  unfold Dk.cut
  by_cases hkn : (k : Int) ≤ n
  · rw [if_neg (by rw [h.may hkn f hf]; simp), if_neg (by omega)]
    have ho := (h.on hkn).1
    rcases hf with rfl | rfl
    · exact h.goes hn hkn _ h.most h.fused ho rfl (h.z0.put _ (by simp [Chg.size])) (h.z1.up (by omega))
    · exact h.goes hn hkn _ h.most h.fused ho rfl (h.z0.up (by omega)) (h.z1.put _ (by simp [Chg.size]))
  · obtain ⟨h1, h2, h3⟩ := h.no (by omega) f
    rw [if_pos (by rw [h1]; simp), h1, h2]
    exact ⟨_, rfl, h3⟩
theorem FI.sync {n : Int} {k : Nat} {d : Dk} (h : FI n k d) (hn : n ≤ 255) (f : Int) (hf : f = 0 ∨ f = 1) : ∃ d', d.sync f = (fres n k, d') ∧ FI n (k + 1) d' := by
  unfold Dk.sync
  by_cases hkn : (k : Int) ≤ n
  · rw [if_neg (by rw [h.may hkn f hf]; simp)]
    have ho := (h.on hkn).1
    rcases hf with rfl | rfl
    · exact h.goes hn hkn _ h.most h.fused ho rfl h.z0.settled (h.z1.up (by omega))
    · exact h.goes hn hkn _ h.most h.fused ho rfl (h.z0.up (by omega)) h.z1.settled
  · obtain ⟨h1, h2, h3⟩ := h.no (by omega) f
    rw [if_pos (by rw [h1]; simp), h1, h2]
    exact ⟨_, rfl, h3⟩
/-- Write of a file that is none -/
theorem write_two (d : Dk) : d.write 2 [] = (if d.off = true then 8 else 1, d) := by
  unfold Dk.write
  cases ho : d.off
  · rw [show mayv false 2 = 1 from by decide]; simp
  · rw [show mayv true 2 = 8 from by decide]; simp
end Go.Proofs.Ytfohemgfiidokaa
