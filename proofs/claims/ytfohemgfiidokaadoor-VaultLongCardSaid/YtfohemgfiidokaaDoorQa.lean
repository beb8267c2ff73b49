/- The walk of VaultLong (printed by genqa.py). -/
import Derived.Test.YtfohemgfiidokaaDoorPe
namespace Go.Proofs.YtfohemgfiidokaaDoor
open Go.RowKit Go.Sort

def lngL (n : Nat) : List (List Int) := [[97], List.replicate n 0]
theorem lng_bytes (n : Nat) : ∀ r ∈ lngL n, Bytes r := fun r hr => by
  simp only [lngL, List.mem_cons, List.not_mem_nil, or_false] at hr
  rcases hr with rfl | rfl
  · intro b hb; simp at hb; omega
  · intro b hb; have := List.eq_of_mem_replicate hb; omega
theorem lng_size (n : Nat) : sizeI (lngL n) = n + 73 := by simp [lngL, sizeI]; omega
theorem lng_ok (n : Nat) (h : n ≤ 32768) : RecOk (lngL n) := fun r hr => ⟨lng_bytes n r hr, by
  simp only [lngL, List.mem_cons, List.not_mem_nil, or_false] at hr
  rcases hr with rfl | rfl
  · simp
  · simp; omega⟩
theorem lng_long (n : Nat) (h : 32768 < n) : lngI (lngL n) = true := by simp [lngI, lngL]; omega
theorem made_text (n : Nat) (w : World) : TextAt w.heap.size (w.alloc (.cells (madeCells #[.int .u8 0] n) 5)) (.slice (some ⟨w.heap.size, 0, none⟩) n n) (List.replicate n 0) :=
  ⟨n, by simp, by simp, fun j hj => by
    have hj' : j < n := by simpa using hj
    rw [cell_of_row _ _ _ _ _ _ (heap_alloc_new _ _), ← Array.getElem?_toList, toList_madeCells_one]
    simp [hj']⟩
theorem mk_long (n : Nat) (hn : n ≤ 33000) (W : World) : (Instr.makeSlice 35 (.int .i64 (n : Int)) (.int .i64 (n : Int))).run Tryd.prog W = .ok (.slice (some ⟨W.heap.size, 0, none⟩) n n) (W.alloc (.cells (madeCells #[.int .u8 0] n) 5)) :=
  run_make_row' 35 5 (.int .u8 0) 1 (by kernel_rfl) (by kernel_rfl) rfl .i64 .i64 n (by omega) (by omega) W
theorem rdls_two {W : World} {g B1 B2 cap : Nat} {v1 v2 : Value} {xs ys : List Int} {ρ : Nat → Nat} (h1 : 2 ≤ cap) (t1 : TextAt B1 W v1 xs) (t2 : TextAt B2 W v2 ys) (c0 : W.cell? ⟨g, 0, none⟩ = some v1) (c1 : W.cell? ⟨g, 1, none⟩ = some v2) (hg : ρ g = 0) (r1 : ρ B1 = 0) (r2 : ρ B2 = 0) : RdLS W ρ (.slice (some ⟨g, 0, none⟩) 2 cap) [xs, ys] :=
  .inr ⟨_, g, 0, cap, rfl, h1, fun _ => ⟨rfl, hg⟩, fun j hj => by
    rcases j with _ | _ | j
    · exact ⟨v1, c0, t1.rds r1⟩
    · exact ⟨v2, c1, t2.rds r2⟩
    · simp at hj; omega⟩
def lngO (n : Nat) : Obj := .cells (madeCells #[.int .u8 0] n) 5
def lngP (a b n c : Nat) : Obj := .cells #[.slice (some ⟨a, 0, none⟩) 1 c, .slice (some ⟨b, 0, none⟩) n n] 35
theorem long_rows {w0 w2 w3 : World} {D : Nat} {d : Dk} {o : Option (Nat × Va)} {R : List (Value × List (List Int))} (s2 : St w0 [] D d o R w2) {c : Nat} (t3 : TextAt w2.heap.size w3 (.slice (some ⟨w2.heap.size, 0, none⟩) 1 c) [97]) (b3 : RowKit.Below w2.heap.size w2 w3) (n : Nat) :
    St w0 [] D d o ((.slice (some ⟨w3.heap.size + 1, 0, none⟩) 2 2, lngL n) :: R) ((w3.alloc (.cells (madeCells #[.int .u8 0] n) 5)).alloc (.cells #[.slice (some ⟨w2.heap.size, 0, none⟩) 1 c, .slice (some ⟨w3.heap.size, 0, none⟩) n n] 35)) := by
  have hsz : (w3.alloc (lngO n)).heap.size = w3.heap.size + 1 := by simp
  have b4 := bel_alloc (bel_alloc b3 (lngO n)) (lngP w2.heap.size w3.heap.size n c)
  have x1 := bel_alloc (RowKit.Below.refl w3.heap.size w3) (lngO n)
  have x2 := bel_alloc (RowKit.Below.refl (w3.alloc (lngO n)).heap.size (w3.alloc (lngO n))) (lngP w2.heap.size w3.heap.size n c)
  have hnew := heap_alloc_new (w3.alloc (lngO n)) (lngP w2.heap.size w3.heap.size n c)
  rw [hsz] at hnew
  have := b3.size
  exact s2.addNew b4 _ _ fun ρ _ hf _ => rdls_two (Nat.le_refl 2) ((t3.keep x1).keep x2) ((made_text n w3).keep x2) (cell_of_row _ _ _ _ _ _ hnew) (cell_of_row _ _ _ _ _ _ hnew) (hf _ (by omega)) (hf _ (Nat.le_refl _)) (hf _ this)
theorem long_rows1 {w0 w2 w3 : World} {D : Nat} {d : Dk} {o : Option (Nat × Va)} {R : List (Value × List (List Int))} (s2 : St w0 [] D d o R w2) {c : Nat} (t3 : TextAt w2.drew.heap.size w3 (.slice (some ⟨w2.drew.heap.size, 0, none⟩) 1 c) [97]) (b3 : RowKit.Below w2.drew.heap.size w2.drew w3) (n : Nat) :
    St w0 [] D d o ((.slice (some ⟨w3.heap.size + 1, 0, none⟩) 2 2, lngL n) :: R) ((w3.alloc (.cells (madeCells #[.int .u8 0] n) 5)).alloc (.cells #[.slice (some ⟨w2.heap.size, 0, none⟩) 1 c, .slice (some ⟨w3.heap.size, 0, none⟩) n n] 35)) :=
  long_rows s2 (c := c) t3 (bel_call (RowKit.Below.refl w2.heap.size w2).drew b3) n
theorem long_rows2 {w0 w2 w3 : World} {D : Nat} {d : Dk} {o : Option (Nat × Va)} {R : List (Value × List (List Int))} (s2 : St w0 [] D d o R w2) {c n : Nat} (t3 : TextAt (w2.alloc (lngO n)).drew.heap.size w3 (.slice (some ⟨(w2.alloc (lngO n)).drew.heap.size, 0, none⟩) 1 c) [97]) (b3 : RowKit.Below (w2.alloc (lngO n)).drew.heap.size (w2.alloc (lngO n)).drew w3) :
    St w0 [] D d o ((.slice (some ⟨w3.heap.size, 0, none⟩) 2 2, lngL n) :: R) (w3.alloc (.cells #[.slice (some ⟨w2.heap.size + 1, 0, none⟩) 1 c, .slice (some ⟨w2.heap.size, 0, none⟩) n n] 35)) := by
  have hsz : (w2.alloc (lngO n)).drew.heap.size = w2.heap.size + 1 := by show (w2.alloc (lngO n)).heap.size = _; simp
  have x0 := (bel_alloc (RowKit.Below.refl w2.heap.size w2) (lngO n)).drew
  have b := bel_call x0 b3
  have b1 := bel_call (RowKit.Below.refl (w2.alloc (lngO n)).heap.size (w2.alloc (lngO n))).drew b3
  rw [hsz] at t3
  have b4 := bel_alloc b (lngP (w2.heap.size + 1) w2.heap.size n c)
  have x2 := bel_alloc (RowKit.Below.refl w3.heap.size w3) (lngP (w2.heap.size + 1) w2.heap.size n c)
  have hnew := heap_alloc_new w3 (lngP (w2.heap.size + 1) w2.heap.size n c)
  exact s2.addNew b4 _ _ fun ρ _ hf _ => rdls_two (Nat.le_refl 2) (t3.keep x2) (((made_text n w2).keep b1).keep x2) (cell_of_row _ _ _ _ _ _ hnew) (cell_of_row _ _ _ _ _ _ hnew) (hf _ b.size) (hf _ (by omega)) (hf _ (Nat.le_refl _))
theorem Kept.up {most : Int} {d : Dk} {x : Va} {ls : List (List Int)} {k m k' m' : Nat} (h : Kept most d x ls k m) (hk : k ≤ k') (hm : m ≤ m') : Kept most d x ls k' m' := ⟨h.live, h.fu, h.most_, h.dg.up hk hm⟩
section
variable {w0 w : World} {A : List Nat} {D V n : Nat} {d : Dk} {R : List (Value × List (List Int))}
theorem long_add (h : St w0 A D d (some (V, ⟨1, 1, 0, false⟩)) R w) (kp : Kept 262144 d ⟨1, 1, 0, false⟩ [] 4 176) (hn : n ≤ 32768) (ht : KTab w0) (v : Value) (hv : RdL w v (lngL n)) :
    Calls Tryd.prog 12 #[.pointer (some ⟨V, 0, none⟩), v] w fun e w' => e = .returned (.int .i64 0) ∧ ∃ d' x', St w0 A D d' (some (V, x')) R w' ∧ Kept 262144 d' x' (lngL n) 8 200000 := by
  have hs := lng_size n
  have hl : (lngL n).length = 2 := rfl
  refine (k_add h kp (by omega) (by omega) ht v (lngL n) hv (lng_ok n hn) (by omega) (by omega) (by rw [hl]; decide)).mono fun e w' ⟨r, d', x', he, hS, hq⟩ => ?_
  rcases hq with ⟨h1, -⟩ | ⟨-, rfl, h2⟩
  · rw [kp.live.room, kp.most_, hs] at h1
    simp only [sizeI] at h1
    omega
  · exact ⟨he, d', x', hS.1, (show Kept 262144 d' x' (lngL n) _ _ from h2).up (by omega) (by omega)⟩
theorem long_comp (h : St w0 A D d (some (V, ⟨1, 1, 0, false⟩)) R w) (kp : Kept 262144 d ⟨1, 1, 0, false⟩ [] 4 176) (hn : n ≤ 32768) (ht : KTab w0) (v : Value) (hv : RdL w v (lngL n)) :
    Calls Tryd.prog 13 #[.pointer (some ⟨V, 0, none⟩), v] w fun e w' => e = .returned (.int .i64 0) ∧ ∃ d' x', St w0 A D d' (some (V, x')) R w' ∧ Kept 262144 d' x' (lngL n) 8 200000 := by
  have hs := lng_size n
  have hl : (lngL n).length = 2 := rfl
  refine (k_comp h kp (by omega) (by omega) ht (by decide) v (lngL n) hv (lng_ok n hn) (by omega) (by omega)).mono fun e w' ⟨r, d', x', he, hS, hq⟩ => ?_
  rcases hq with ⟨h1, -⟩ | ⟨-, rfl, h2⟩
  · rw [kp.live.room, kp.most_, hs] at h1
    simp only [sizeI] at h1
    omega
  · exact ⟨he, d', x', hS.1, h2.up (by omega) (by omega)⟩
theorem long_open {o : Option (Nat × Va)} {x : Va} (h : St w0 A D d o R w) (kp : Kept 262144 d x (lngL n) 8 200000) (ht : KTab w0) : Calls Tryd.prog 11 #[.pointer (some ⟨D, 0, none⟩)] w fun e w' =>
    ∃ V p cap d1 x1, e = .returned (.tuple #[.pointer (some ⟨V, 0, none⟩), .slice p 2 cap, .int .i64 0]) ∧ St w0 A D d1 (some (V, x1)) ((.slice p 2 cap, lngL n) :: R) w' :=
  (k_open h kp (by omega) (by omega) ht).mono fun e w' ⟨V, p, cap, d1, x1, he, hS, _⟩ => ⟨V, p, cap, d1, x1, he, hS.1⟩
theorem long_open0 {o : Option (Nat × Va)} {x : Va} (h : St w0 A D d o R w) (kp : Kept 262144 d x [] 4 176) (ht : KTab w0) : Calls Tryd.prog 11 #[.pointer (some ⟨D, 0, none⟩)] w fun e w' =>
    ∃ V p cap d1 x1, e = .returned (.tuple #[.pointer (some ⟨V, 0, none⟩), .slice p 0 cap, .int .i64 0]) ∧ St w0 A D d1 (some (V, x1)) ((.slice p 0 cap, []) :: R) w' :=
  (k_open h kp (by omega) (by omega) ht).mono fun e w' ⟨V, p, cap, d1, x1, he, hS, _⟩ => ⟨V, p, cap, d1, x1, he, hS.1⟩
end

set_option maxRecDepth 100000 in
set_option maxHeartbeats 1600000 in
theorem long_sa (a : Int) (n : Nat) (hn : (n : Int) = 32768 + a) (h1 : -128 ≤ a) (h2 : a ≤ 127) (hc : a ≤ 0) (w : World) (ht : KTab w) : Calls Tryd.prog 6 #[.int .i8 a, .bool false] w fun e w' => e = .returned (.bool true) ∧ RowKit.Below w.heap.size w w' := by
  have HT := Lib.hid ht
  have HN := Lib.hid (st_new 262144 w (by omega) (by omega))
  have HB := Lib.hid fun W => bs_c { data := #[97] } [97] 1 rfl rfl W
  have hmk := mk_long n (by omega)
  rw [hn] at hmk
  have hwa : IntKind.i64.wrap a = a := by rw [IntKind.wrap_i64]; omega
  have hwn : IntKind.i64.wrap (32768 + a) = 32768 + a := by rw [IntKind.wrap_i64]; omega
  have hd : decide ((0 : Int) < a) = false := by simp; omega
  have hle : (lngL n).length = 2 := rfl
  have HW := Lib.hid fun W (hb : RowKit.Below w.heap.size w W) => works_c W (ht.call hb)
  clear ht
  go_enter Tryd.func6, Tryd.ntmps6
  go_upto_region 5 with (first
    | (go_at_call 10; (with_reducible refine HN.out.mono ?_); rintro e w1 ⟨rfl, s1⟩)
    | (go_at_call 11; (with_reducible refine (k_fresh (by omega) (by omega) s1 HT.out).mono ?_); rintro e w2 ⟨V2, p2, q2, d2, rfl, ⟨s2, -⟩, k2⟩)
    | fail)
  go_region_held3 (fun _ => True) (trivial) (first | (go_at_call 24; (with_reducible refine (HB.out _).mono ?_); rintro e w3 ⟨cap3, rfl, t3, b3⟩))
  · have s4 := long_rows1 s2 t3 b3 n
    have r4 := s4.rdl (List.mem_cons_self ..)
    go_wp2_with (first
      | (go_at_call 12; (with_reducible refine (long_add s4 k2 (by omega) HT.out _ r4).mono ?_); rintro e w5 ⟨rfl, d5, x5, s5, k5⟩)
      | (go_at_call 11; (with_reducible refine (long_open s5 k5 HT.out).mono ?_); rintro e w6 ⟨V6, p6, q6, d6, x6, rfl, s6⟩; have l6 := s6.rdl (List.mem_cons_self ..); have r6 := s6.rdl (List.mem_cons_of_mem _ (List.mem_cons_self ..)))
      | (go_at_call 19; (with_reducible refine (same_c _ _ (lngL n) (lngL n) _ l6 r6 (lng_bytes n) (lng_bytes n) (by omega)).mono ?_); rintro e w7 ⟨rfl, b7⟩; have b7 := bel_call s6.below b7)
      | (go_at_call 9; (with_reducible refine (HW.out _ b7).mono ?_); rintro e w8 ⟨rfl, b8⟩; have b7 := bel_call b7 b8)
      | fail)
    go_ret
    exact ⟨rfl, b7⟩
  · have s4 := long_rows2 s2 t3 b3
    have r4 := s4.rdl (List.mem_cons_self ..)
    go_wp2_with (first
      | (go_at_call 12; (with_reducible refine (long_add s4 k2 (by omega) HT.out _ r4).mono ?_); rintro e w5 ⟨rfl, d5, x5, s5, k5⟩)
      | (go_at_call 11; (with_reducible refine (long_open s5 k5 HT.out).mono ?_); rintro e w6 ⟨V6, p6, q6, d6, x6, rfl, s6⟩; have l6 := s6.rdl (List.mem_cons_self ..); have r6 := s6.rdl (List.mem_cons_of_mem _ (List.mem_cons_self ..)))
      | (go_at_call 19; (with_reducible refine (same_c _ _ (lngL n) (lngL n) _ l6 r6 (lng_bytes n) (lng_bytes n) (by omega)).mono ?_); rintro e w7 ⟨rfl, b7⟩; have b7 := bel_call s6.below b7)
      | (go_at_call 9; (with_reducible refine (HW.out _ b7).mono ?_); rintro e w8 ⟨rfl, b8⟩; have b7 := bel_call b7 b8)
      | fail)
    go_ret
    exact ⟨rfl, b7⟩

set_option maxRecDepth 100000 in
set_option maxHeartbeats 1600000 in
theorem long_sc (a : Int) (n : Nat) (hn : (n : Int) = 32768 + a) (h1 : -128 ≤ a) (h2 : a ≤ 127) (hc : a ≤ 0) (w : World) (ht : KTab w) : Calls Tryd.prog 6 #[.int .i8 a, .bool true] w fun e w' => e = .returned (.bool true) ∧ RowKit.Below w.heap.size w w' := by
  have HT := Lib.hid ht
  have HN := Lib.hid (st_new 262144 w (by omega) (by omega))
  have HB := Lib.hid fun W => bs_c { data := #[97] } [97] 1 rfl rfl W
  have hmk := mk_long n (by omega)
  rw [hn] at hmk
  have hwa : IntKind.i64.wrap a = a := by rw [IntKind.wrap_i64]; omega
  have hwn : IntKind.i64.wrap (32768 + a) = 32768 + a := by rw [IntKind.wrap_i64]; omega
  have hd : decide ((0 : Int) < a) = false := by simp; omega
  have hle : (lngL n).length = 2 := rfl
  have HW := Lib.hid fun W (hb : RowKit.Below w.heap.size w W) => works_c W (ht.call hb)
  clear ht
  go_enter Tryd.func6, Tryd.ntmps6
  go_upto_region 5 with (first
    | (go_at_call 10; (with_reducible refine HN.out.mono ?_); rintro e w1 ⟨rfl, s1⟩)
    | (go_at_call 11; (with_reducible refine (k_fresh (by omega) (by omega) s1 HT.out).mono ?_); rintro e w2 ⟨V2, p2, q2, d2, rfl, ⟨s2, -⟩, k2⟩)
    | fail)
  go_region_held3 (fun _ => True) (trivial) (first | (go_at_call 24; (with_reducible refine (HB.out _).mono ?_); rintro e w3 ⟨cap3, rfl, t3, b3⟩))
  · have s4 := long_rows1 s2 t3 b3 n
    have r4 := s4.rdl (List.mem_cons_self ..)
    go_wp2_with (first
      | (go_at_call 13; (with_reducible refine (long_comp s4 k2 (by omega) HT.out _ r4).mono ?_); rintro e w5 ⟨rfl, d5, x5, s5, k5⟩)
      | (go_at_call 11; (with_reducible refine (long_open s5 k5 HT.out).mono ?_); rintro e w6 ⟨V6, p6, q6, d6, x6, rfl, s6⟩; have l6 := s6.rdl (List.mem_cons_self ..); have r6 := s6.rdl (List.mem_cons_of_mem _ (List.mem_cons_self ..)))
      | (go_at_call 19; (with_reducible refine (same_c _ _ (lngL n) (lngL n) _ l6 r6 (lng_bytes n) (lng_bytes n) (by omega)).mono ?_); rintro e w7 ⟨rfl, b7⟩; have b7 := bel_call s6.below b7)
      | (go_at_call 9; (with_reducible refine (HW.out _ b7).mono ?_); rintro e w8 ⟨rfl, b8⟩; have b7 := bel_call b7 b8)
      | fail)
    go_ret
    exact ⟨rfl, b7⟩
  · have s4 := long_rows2 s2 t3 b3
    have r4 := s4.rdl (List.mem_cons_self ..)
    go_wp2_with (first
      | (go_at_call 13; (with_reducible refine (long_comp s4 k2 (by omega) HT.out _ r4).mono ?_); rintro e w5 ⟨rfl, d5, x5, s5, k5⟩)
      | (go_at_call 11; (with_reducible refine (long_open s5 k5 HT.out).mono ?_); rintro e w6 ⟨V6, p6, q6, d6, x6, rfl, s6⟩; have l6 := s6.rdl (List.mem_cons_self ..); have r6 := s6.rdl (List.mem_cons_of_mem _ (List.mem_cons_self ..)))
      | (go_at_call 19; (with_reducible refine (same_c _ _ (lngL n) (lngL n) _ l6 r6 (lng_bytes n) (lng_bytes n) (by omega)).mono ?_); rintro e w7 ⟨rfl, b7⟩; have b7 := bel_call s6.below b7)
      | (go_at_call 9; (with_reducible refine (HW.out _ b7).mono ?_); rintro e w8 ⟨rfl, b8⟩; have b7 := bel_call b7 b8)
      | fail)
    go_ret
    exact ⟨rfl, b7⟩

set_option maxRecDepth 100000 in
set_option maxHeartbeats 1600000 in
theorem long_la (a : Int) (n : Nat) (hn : (n : Int) = 32768 + a) (h1 : -128 ≤ a) (h2 : a ≤ 127) (hc : 0 < a) (w : World) (ht : KTab w) : Calls Tryd.prog 6 #[.int .i8 a, .bool false] w fun e w' => e = .returned (.bool true) ∧ RowKit.Below w.heap.size w w' := by
  have HT := Lib.hid ht
  have HN := Lib.hid (st_new 262144 w (by omega) (by omega))
  have HB := Lib.hid fun W => bs_c { data := #[97] } [97] 1 rfl rfl W
  have hmk := mk_long n (by omega)
  rw [hn] at hmk
  have hwa : IntKind.i64.wrap a = a := by rw [IntKind.wrap_i64]; omega
  have hwn : IntKind.i64.wrap (32768 + a) = 32768 + a := by rw [IntKind.wrap_i64]; omega
  have hd : decide ((0 : Int) < a) = true := by simp; omega
  have hle : (lngL n).length = 2 := rfl
  have HW := Lib.hid fun W (hb : RowKit.Below w.heap.size w W) => works_c W (ht.call hb)
  clear ht
  go_enter Tryd.func6, Tryd.ntmps6
  go_upto_region 5 with (first
    | (go_at_call 10; (with_reducible refine HN.out.mono ?_); rintro e w1 ⟨rfl, s1⟩)
    | (go_at_call 11; (with_reducible refine (k_fresh (by omega) (by omega) s1 HT.out).mono ?_); rintro e w2 ⟨V2, p2, q2, d2, rfl, ⟨s2, -⟩, k2⟩)
    | fail)
  go_region_held3 (fun _ => True) (trivial) (first | (go_at_call 24; (with_reducible refine (HB.out _).mono ?_); rintro e w3 ⟨cap3, rfl, t3, b3⟩))
  · have s4 := long_rows1 s2 t3 b3 n
    have r4 := s4.rdl (List.mem_cons_self ..)
    go_wp2_with (first
      | (go_at_call 12; (with_reducible refine (k_lngadd s4 k2 (by omega) (by omega) HT.out _ (lngL n) r4 (lng_bytes n) (lng_long n (by omega)) (by rw [lng_size]; omega) (by omega)).mono ?_); rintro e w5 ⟨rfl, s5, -⟩)
      | (go_at_call 11; (with_reducible refine (long_open0 s5 k2 HT.out).mono ?_); rintro e w6 ⟨V6, p6, q6, d6, x6, rfl, s6⟩)
      | (go_at_call 9; (with_reducible refine (HW.out _ s6.below).mono ?_); rintro e w7 ⟨rfl, b7⟩; have b7 := bel_call s6.below b7)
      | fail)
    go_ret
    exact ⟨rfl, b7⟩
  · have s4 := long_rows2 s2 t3 b3
    have r4 := s4.rdl (List.mem_cons_self ..)
    go_wp2_with (first
      | (go_at_call 12; (with_reducible refine (k_lngadd s4 k2 (by omega) (by omega) HT.out _ (lngL n) r4 (lng_bytes n) (lng_long n (by omega)) (by rw [lng_size]; omega) (by omega)).mono ?_); rintro e w5 ⟨rfl, s5, -⟩)
      | (go_at_call 11; (with_reducible refine (long_open0 s5 k2 HT.out).mono ?_); rintro e w6 ⟨V6, p6, q6, d6, x6, rfl, s6⟩)
      | (go_at_call 9; (with_reducible refine (HW.out _ s6.below).mono ?_); rintro e w7 ⟨rfl, b7⟩; have b7 := bel_call s6.below b7)
      | fail)
    go_ret
    exact ⟨rfl, b7⟩

set_option maxRecDepth 100000 in
set_option maxHeartbeats 1600000 in
theorem long_lc (a : Int) (n : Nat) (hn : (n : Int) = 32768 + a) (h1 : -128 ≤ a) (h2 : a ≤ 127) (hc : 0 < a) (w : World) (ht : KTab w) : Calls Tryd.prog 6 #[.int .i8 a, .bool true] w fun e w' => e = .returned (.bool true) ∧ RowKit.Below w.heap.size w w' := by
  have HT := Lib.hid ht
  have HN := Lib.hid (st_new 262144 w (by omega) (by omega))
  have HB := Lib.hid fun W => bs_c { data := #[97] } [97] 1 rfl rfl W
  have hmk := mk_long n (by omega)
  rw [hn] at hmk
  have hwa : IntKind.i64.wrap a = a := by rw [IntKind.wrap_i64]; omega
  have hwn : IntKind.i64.wrap (32768 + a) = 32768 + a := by rw [IntKind.wrap_i64]; omega
  have hd : decide ((0 : Int) < a) = true := by simp; omega
  have hle : (lngL n).length = 2 := rfl
  have HW := Lib.hid fun W (hb : RowKit.Below w.heap.size w W) => works_c W (ht.call hb)
  clear ht
  go_enter Tryd.func6, Tryd.ntmps6
  go_upto_region 5 with (first
    | (go_at_call 10; (with_reducible refine HN.out.mono ?_); rintro e w1 ⟨rfl, s1⟩)
    | (go_at_call 11; (with_reducible refine (k_fresh (by omega) (by omega) s1 HT.out).mono ?_); rintro e w2 ⟨V2, p2, q2, d2, rfl, ⟨s2, -⟩, k2⟩)
    | fail)
  go_region_held3 (fun _ => True) (trivial) (first | (go_at_call 24; (with_reducible refine (HB.out _).mono ?_); rintro e w3 ⟨cap3, rfl, t3, b3⟩))
  · have s4 := long_rows1 s2 t3 b3 n
    have r4 := s4.rdl (List.mem_cons_self ..)
    go_wp2_with (first
      | (go_at_call 13; (with_reducible refine (k_lngcomp s4 k2 (by omega) (by omega) HT.out _ (lngL n) r4 (lng_bytes n) (lng_long n (by omega)) (by rw [lng_size]; omega) (by omega)).mono ?_); rintro e w5 ⟨rfl, s5, -⟩)
      | (go_at_call 11; (with_reducible refine (long_open0 s5 k2 HT.out).mono ?_); rintro e w6 ⟨V6, p6, q6, d6, x6, rfl, s6⟩)
      | (go_at_call 9; (with_reducible refine (HW.out _ s6.below).mono ?_); rintro e w7 ⟨rfl, b7⟩; have b7 := bel_call s6.below b7)
      | fail)
    go_ret
    exact ⟨rfl, b7⟩
  · have s4 := long_rows2 s2 t3 b3
    have r4 := s4.rdl (List.mem_cons_self ..)
    go_wp2_with (first
      | (go_at_call 13; (with_reducible refine (k_lngcomp s4 k2 (by omega) (by omega) HT.out _ (lngL n) r4 (lng_bytes n) (lng_long n (by omega)) (by rw [lng_size]; omega) (by omega)).mono ?_); rintro e w5 ⟨rfl, s5, -⟩)
      | (go_at_call 11; (with_reducible refine (long_open0 s5 k2 HT.out).mono ?_); rintro e w6 ⟨V6, p6, q6, d6, x6, rfl, s6⟩)
      | (go_at_call 9; (with_reducible refine (HW.out _ s6.below).mono ?_); rintro e w7 ⟨rfl, b7⟩; have b7 := bel_call s6.below b7)
      | fail)
    go_ret
    exact ⟨rfl, b7⟩
theorem long_w (a : Int) (c : Bool) (w : World) (h1 : -128 ≤ a) (h2 : a ≤ 127) (ht : KTab w) : Calls Tryd.prog 6 #[.int .i8 a, .bool c] w fun e w' => e = .returned (.bool true) ∧ RowKit.Below w.heap.size w w' := by
  obtain ⟨n, hn⟩ : ∃ n : Nat, (n : Int) = 32768 + a := ⟨(32768 + a).toNat, by omega⟩
  by_cases hc : 0 < a
  · cases c
    · exact long_la a n hn h1 h2 hc w ht
    · exact long_lc a n hn h1 h2 hc w ht
  · cases c
    · exact long_sa a n hn h1 h2 (by omega) w ht
    · exact long_sc a n hn h1 h2 (by omega) w ht
end Go.Proofs.YtfohemgfiidokaaDoor
