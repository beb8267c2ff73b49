/- A disk without a fuse and its vault, call by call. -/
import Derived.Test.YtfohemgfiidokaaDoorYy
import Derived.Test.YtfohemgfiidokaaDoorPd
import Derived.Deep.OwnRows
namespace Go.Proofs.YtfohemgfiidokaaDoor
open Go.RowKit Go.Sort

structure Kept (most : Int) (d : Dk) (x : Va) (ls : List (List Int)) (k m : Nat) : Prop where
  live : Live d x ls
  fu : d.fused = false
  most_ : d.most = most
  dg : DG d k m
section
variable {w0 w : World} {A : List Nat} {D : Nat} {d : Dk} {o : Option (Nat × Va)} {R : List (Value × List (List Int))} {most : Int} {k m V : Nat} {x : Va} {ls : List (List Int)}
theorem k_fresh (h0 : 44 ≤ most) (h1 : most ≤ 4194304) (h : St w0 A D (freshD most) o R w) (ht : KTab w0) : Calls Tryd.prog 11 #[.pointer (some ⟨D, 0, none⟩)] w fun e w' =>
    ∃ V p cap d1, e = .returned (.tuple #[.pointer (some ⟨V, 0, none⟩), .slice p 0 cap, .int .i64 0]) ∧ StT w0 A D d1 (some (V, ⟨1, 1, 0, false⟩)) R w w' ∧ Kept most d1 ⟨1, 1, 0, false⟩ [] 4 176 := by
  have hdg := fresh_dg (most := most) (by omega) h1
  have hc := st_open h hdg (by omega) (by omega) ht
  have hdo := hdg.openV
  obtain ⟨d', e1, e2, e3, e4⟩ := open_fresh h0 h1
  rw [e1] at hc hdo
  refine hc.mono fun e w' ⟨V, rv, he, hs, q⟩ => ?_
  obtain ⟨p, cap, rfl, -⟩ := (hs.rdl (List.mem_cons_self ..)).shape
  exact ⟨V, p, cap, d', he, ⟨hs.sub fun p hp => List.mem_cons_of_mem _ hp, q⟩, e2, e3, e4, hdo⟩
theorem k_open (h : St w0 A D d o R w) (kp : Kept most d x ls k m) (hk : k ≤ 900000) (hm : m ≤ 9000000) (ht : KTab w0) : Calls Tryd.prog 11 #[.pointer (some ⟨D, 0, none⟩)] w fun e w' =>
    ∃ V p cap d1 x1, e = .returned (.tuple #[.pointer (some ⟨V, 0, none⟩), .slice p ls.length cap, .int .i64 0]) ∧ StT w0 A D d1 (some (V, x1)) ((.slice p ls.length cap, ls) :: R) w w' ∧ Kept most d1 x1 ls (k + 4) (m + 176) := by
  have hc := st_open h kp.dg hk hm ht
  have hdo := kp.dg.openV
  obtain ⟨d', e1, e2, e3, e4⟩ := open_live kp.live kp.fu kp.dg.sz (by omega) (by omega) kp.dg.by_
  rw [e1] at hc hdo
  refine hc.mono fun e w' ⟨V, rv, he, hs, q⟩ => ?_
  obtain ⟨p, cap, rfl, -⟩ := (hs.rdl (List.mem_cons_self ..)).shape
  exact ⟨V, p, cap, d', _, he, ⟨hs, q⟩, e2, e3, e4.trans kp.most_, hdo⟩
theorem k_add (h : St w0 A D d (some (V, x)) R w) (kp : Kept most d x ls k m) (hk : k ≤ 900000) (hm : m ≤ 9000000) (ht : KTab w0) (v : Value) (ms : List (List Int)) (hv : RdL w v ms) (hms : RecOk ms) (hsz : sizeI ms ≤ 10000000) (hln : ms.length ≤ 250000) (hl : ls.length + ms.length ≤ 1000000) :
    Calls Tryd.prog 12 #[.pointer (some ⟨V, 0, none⟩), v] w fun e w' => ∃ r d' x', e = .returned (.int .i64 r) ∧ StT w0 A D d' (some (V, x')) R w w' ∧
      ((roomF d < sizeI ms ∧ r = 7 ∧ d' = d ∧ Kept most d' x' ls (k + 4) (m + 4 * (44 + sizeI ms))) ∨ (sizeI ms ≤ roomF d ∧ r = 0 ∧ Kept most d' x' (ls ++ ms) (k + 4) (m + 4 * (44 + sizeI ms)))) := by
  have hc := st_add h kp.dg hk hm ht v ms hv (fun r hr => (hms r hr).1) hsz hln ⟨by rw [kp.live.n]; omega, by rw [kp.live.n]; omega⟩
  have hd := kp.dg.addV x ms (fun r hr => (hms r hr).1)
  refine hc.mono fun e w' ⟨he, hs⟩ => ⟨_, _, _, he, hs, ?_⟩
  rcases add_live kp.live kp.dg.sz ms hms hl with ⟨h1, h2⟩ | ⟨h1, ⟨d', h2, h3, h4, h5⟩ | ⟨d', h2, h3, h4, -⟩⟩
  · rw [h2] at hd ⊢
    exact .inl ⟨h1, rfl, rfl, kp.live, kp.fu, kp.most_, hd⟩
  · rw [h2] at hd ⊢
    exact .inr ⟨h1, rfl, h3, by rw [h4]; exact kp.fu, by rw [h5]; exact kp.most_, hd⟩
  · rw [kp.fu] at h4; cases h4
theorem k_comp (h : St w0 A D d (some (V, x)) R w) (kp : Kept most d x ls k m) (hk : k ≤ 900000) (hm : m ≤ 9000000) (ht : KTab w0) (hg : x.gen < 4611686018427387904) (v : Value) (ms : List (List Int)) (hv : RdL w v ms) (hms : RecOk ms) (hsz : sizeI ms ≤ 10000000) (hln : ms.length ≤ 250000) :
    Calls Tryd.prog 13 #[.pointer (some ⟨V, 0, none⟩), v] w fun e w' => ∃ r d' x', e = .returned (.int .i64 r) ∧ StT w0 A D d' (some (V, x')) R w w' ∧
      ((roomF d < ((44 + sizeI ms : Nat) : Int) ∧ r = 7 ∧ d' = d ∧ Kept most d' x' ls (k + 4) (m + 4 * (44 + sizeI ms))) ∨ (((44 + sizeI ms : Nat) : Int) ≤ roomF d ∧ r = 0 ∧ Kept most d' x' ms (k + 4) (m + 4 * (44 + sizeI ms)))) := by
  have hc := st_comp h kp.dg hk hm ht kp.live.file v ms hv (fun r hr => (hms r hr).1) hsz hln (by have := kp.live.g; omega)
  have hd := kp.dg.compV x ms (fun r hr => (hms r hr).1)
  refine hc.mono fun e w' ⟨he, hs⟩ => ⟨_, _, _, he, hs, ?_⟩
  rcases comp_live kp.live kp.dg.sz (by omega) (by omega) ms hms (by omega) with ⟨h1, -⟩ | ⟨-, ⟨h1, h2⟩ | ⟨h1, ⟨d', h2, h3, h4, h5⟩ | ⟨d', h2, h3, h4, -⟩⟩⟩
  · omega
  · rw [h2] at hd ⊢
    exact .inl ⟨h1, rfl, rfl, kp.live, kp.fu, kp.most_, hd⟩
  · rw [h2] at hd ⊢
    exact .inr ⟨h1, rfl, h3, by rw [h4]; exact kp.fu, by rw [h5]; exact kp.most_, hd⟩
  · rw [kp.fu] at h4; cases h4
/-- records of which one is too long -/
theorem k_lngadd (h : St w0 A D d (some (V, x)) R w) (kp : Kept most d x ls k m) (hk : k ≤ 900000) (hm : m ≤ 9000000) (ht : KTab w0) (v : Value) (ms : List (List Int)) (hv : RdL w v ms) (hlb : ∀ r ∈ ms, Bytes r) (hms : lngI ms = true) (hsz : sizeI ms ≤ 10000000) (hln : ms.length ≤ 250000) :
    Calls Tryd.prog 12 #[.pointer (some ⟨V, 0, none⟩), v] w fun e w' => e = .returned (.int .i64 1) ∧ StT w0 A D d (some (V, x)) R w w' := by
  have hl := kp.live.len
  have hc := st_add h kp.dg hk hm ht v ms hv hlb hsz hln ⟨by rw [kp.live.n]; omega, by rw [kp.live.n]; omega⟩
  have hv1 : vmayv x.broken ms = 1 := by rw [kp.live.bro]; unfold vmayv; rw [hms]; rfl
  have he : d.addV x ms = (1, d, x) := by unfold Dk.addV; rw [hv1, if_pos (by decide)]
  rw [he] at hc
  exact hc
theorem k_lngcomp (h : St w0 A D d (some (V, x)) R w) (kp : Kept most d x ls k m) (hk : k ≤ 900000) (hm : m ≤ 9000000) (ht : KTab w0) (v : Value) (ms : List (List Int)) (hv : RdL w v ms) (hlb : ∀ r ∈ ms, Bytes r) (hms : lngI ms = true) (hsz : sizeI ms ≤ 10000000) (hln : ms.length ≤ 250000) :
    Calls Tryd.prog 13 #[.pointer (some ⟨V, 0, none⟩), v] w fun e w' => e = .returned (.int .i64 1) ∧ StT w0 A D d (some (V, x)) R w w' := by
  have hc := st_comp h kp.dg hk hm ht kp.live.file v ms hv hlb hsz hln (by have := kp.live.g; omega)
  have hv1 : vmayv x.broken ms = 1 := by rw [kp.live.bro]; unfold vmayv; rw [hms]; rfl
  have he : d.compV x ms = (1, d, x) := by unfold Dk.compV; rw [hv1, if_pos (by decide)]
  rw [he] at hc
  exact hc
end
end Go.Proofs.YtfohemgfiidokaaDoor
