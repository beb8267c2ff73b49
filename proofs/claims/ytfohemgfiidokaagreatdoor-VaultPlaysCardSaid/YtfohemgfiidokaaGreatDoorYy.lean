/- The document's example: works tells true. -/
import Derived.Test.YtfohemgfiidokaaGreatDoorYv
import Derived.Test.YtfohemgfiidokaaGreatDoorYx
namespace Go.Proofs.YtfohemgfiidokaaGreatDoor
open Go.RowKit Go.Sort

theorem rdl_one {W : World} {g B1 cap : Nat} {v1 : Value} {xs : List Int} (h1 : 1 ≤ cap) (t1 : TextAt B1 W v1 xs) (c0 : W.cell? ⟨g, 0, none⟩ = some v1) : RdL W (.slice (some ⟨g, 0, none⟩) 1 cap) [xs] :=
  .inr ⟨_, g, 0, cap, rfl, h1, fun _ => rfl, fun j hj => by
    obtain rfl : j = 0 := by simp at hj; omega
    exact ⟨v1, c0, t1.rd⟩⟩
theorem rdl_two {W : World} {g B1 B2 cap : Nat} {v1 v2 : Value} {xs ys : List Int} (h1 : 2 ≤ cap) (t1 : TextAt B1 W v1 xs) (t2 : TextAt B2 W v2 ys) (c0 : W.cell? ⟨g, 0, none⟩ = some v1) (c1 : W.cell? ⟨g, 1, none⟩ = some v2) : RdL W (.slice (some ⟨g, 0, none⟩) 2 cap) [xs, ys] :=
  .inr ⟨_, g, 0, cap, rfl, h1, fun _ => rfl, fun j hj => by
    rcases j with _ | _ | j
    · exact ⟨v1, c0, t1.rd⟩
    · exact ⟨v2, c1, t2.rd⟩
    · simp at hj; omega⟩
theorem bs_c (s : ByteArray) (xs : List Int) (n : Nat) (h : numsOf s = xs) (hn : xs.length = n) (W : World) : Calls Tryz.prog 15 #[.string s] W fun e w' => ∃ cap, e = .returned (.slice (some ⟨W.heap.size, 0, none⟩) n cap) ∧ TextAt W.heap.size w' (.slice (some ⟨W.heap.size, 0, none⟩) n cap) xs ∧ RowKit.Below W.heap.size W w' := by
  subst h
  subst hn
  refine (b_c s W).mono fun e w' ⟨v, he, ht, hb⟩ => ?_
  have ht2 := ht
  obtain ⟨cap, rfl, h2, h3⟩ := ht
  exact ⟨cap, he, ht2, hb⟩
theorem dg_mk {f0 f1 : Fil} {most left : Int} {off fused : Bool} {k m : Nat} (h0 : FSz f0 k m) (h1 : FSz f1 k m) (hm : 0 ≤ most ∧ most ≤ 4194304) (b0 : FilB f0) (b1 : FilB f1) : DG ⟨f0, f1, most, off, fused, left⟩ k m :=
  ⟨⟨fun f => by rcases f with _ | f; exact h0; exact h1, hm.1, hm.2⟩, ⟨fun f => by rcases f with _ | f; exact b0; exact b1⟩⟩
theorem filB_sure {S : List Int} (h : Bytes S) : FilB ⟨S, []⟩ := ⟨h, fun b hb => by simp at hb⟩
theorem filB_ct {S : List Int} (h : Bytes S) : FilB ⟨S, [.ct 0]⟩ := ⟨h, fun b hb => by simp at hb⟩
theorem filB_wr {S b : List Int} (h : Bytes S) (hb : Bytes b) : FilB ⟨S, [.wr b]⟩ := ⟨h, fun c hc => by simp at hc; subst hc; exact hb⟩
theorem fsz_of {F : Fil} {k m : Nat} (h1 : F.s.length + sizes F.l ≤ m) (h2 : F.l.length ≤ k) : FSz F k m := ⟨h1, h2⟩
theorem nil_bytes : Bytes [] := fun b hb => by simp at hb
theorem S1_bytes : Bytes S1 := (head_bytes 1 0).append (frames_bytes 1 wAB 0 fun r hr => (wok wAB (.inl rfl) r hr).1)
theorem S2_bytes : Bytes S2 := (head_bytes 2 1).append (frames_bytes 2 wD 0 fun r hr => (wok wD (.inr (.inl rfl)) r hr).1)
theorem FE_bytes : Bytes FE := frames_bytes 2 _ 1 fun r hr => (wok [[101]] (.inr (.inr (.inr (.inl rfl)))) r hr).1
theorem g0 : DG D0 2 300 := dg_mk (fsz_of (by simp [sizes]) (by simp)) (fsz_of (by simp [sizes]) (by simp)) (by decide) (filB_sure nil_bytes) (filB_sure nil_bytes)
theorem g1 : DG D1 2 300 := dg_mk (fsz_of (by simp [sizes]) (by simp)) (fsz_of (by simp [sizes, S0_len]) (by simp)) (by decide) (filB_sure nil_bytes) (filB_sure (head_bytes 1 0))
theorem g2 (b : Bool) (l : Int) : DG ⟨⟨[], []⟩, ⟨S1, []⟩, 1000, b, false, l⟩ 2 300 := dg_mk (fsz_of (by simp [sizes]) (by simp)) (fsz_of (by simp [sizes, S1_len]) (by simp)) (by decide) (filB_sure nil_bytes) (filB_sure S1_bytes)
theorem g5 : DG D5 2 300 := dg_mk (fsz_of (by simp [sizes, S2_len]) (by simp)) (fsz_of (by simp [sizes, S1_len, Chg.size]) (by simp)) (by decide) (filB_sure S2_bytes) (filB_ct S1_bytes)
theorem g6 : DG D6 2 300 := dg_mk (fsz_of (by simp [sizes, S2_len, FE_len, Chg.size]) (by simp)) (fsz_of (by simp [sizes, S1_len, Chg.size]) (by simp)) (by decide) (filB_wr S2_bytes FE_bytes) (filB_ct S1_bytes)
theorem g7 : DG D7 2 300 := dg_mk (fsz_of (by simp [sizes, S2_len, FE_len]) (by simp)) (fsz_of (by simp [sizes, S1_len]) (by simp)) (by decide) (filB_sure (S2_bytes.append FE_bytes)) (filB_sure S1_bytes)
theorem DG.ok {d : Dk} (g : DG d 2 300) : DOk d := g.sz.ok (by omega) (by omega)

section
variable {w0 w : World} {D : Nat} {o : Option (Nat × Va)} {R : List (Value × List (List Int))}
theorem o0 (h : St w0 [] D D0 o R w) (ht : KTab w0) : Calls Tryz.prog 11 #[.pointer (some ⟨D, 0, none⟩)] w fun e w' => ∃ V p cap, e = .returned (.tuple #[.pointer (some ⟨V, 0, none⟩), .slice p 0 cap, .int .i64 0]) ∧ St w0 [] D D1 (some (V, ⟨1, 1, 0, false⟩)) [] w' := by
  have hc := st_open h g0 (by omega) (by omega) ht
  rw [w_open0] at hc
  refine hc.mono fun e w' ⟨V, rv, he, hs, _⟩ => ?_
  obtain ⟨p, cap, rfl, -⟩ := (hs.rdl (List.mem_cons_self ..)).shape
  exact ⟨V, p, cap, he, hs.sub fun p hp => by simp at hp⟩
theorem o1 (h : St w0 [] D D2 o R w) (ht : KTab w0) : Calls Tryz.prog 11 #[.pointer (some ⟨D, 0, none⟩)] w fun e w' => ∃ V p cap, e = .returned (.tuple #[.pointer (some ⟨V, 0, none⟩), .slice p 2 cap, .int .i64 0]) ∧ St w0 [] D D3 (some (V, ⟨1, 1, 2, false⟩)) [(.slice p 2 cap, wAB)] w' := by
  have hc := st_open h (g2 false (-4)) (by omega) (by omega) ht
  rw [w_open1] at hc
  refine hc.mono fun e w' ⟨V, rv, he, hs, _⟩ => ?_
  obtain ⟨p, cap, rfl, -⟩ := (hs.rdl (List.mem_cons_self ..)).shape
  exact ⟨V, p, cap, he, hs.sub fun p hp => by simp at hp; subst hp; exact List.mem_cons_self ..⟩
theorem o2 (h : St w0 [] D D7 o R w) (ht : KTab w0) : Calls Tryz.prog 11 #[.pointer (some ⟨D, 0, none⟩)] w fun e w' => ∃ V p cap, e = .returned (.tuple #[.pointer (some ⟨V, 0, none⟩), .slice p 2 cap, .int .i64 0]) ∧ St w0 [] D D8 (some (V, ⟨0, 2, 2, false⟩)) [(.slice p 2 cap, wDE)] w' := by
  have hc := st_open h g7 (by omega) (by omega) ht
  rw [w_open2] at hc
  refine hc.mono fun e w' ⟨V, rv, he, hs, _⟩ => ?_
  obtain ⟨p, cap, rfl, -⟩ := (hs.rdl (List.mem_cons_self ..)).shape
  exact ⟨V, p, cap, he, hs.sub fun p hp => by simp at hp; subst hp; exact List.mem_cons_self ..⟩
theorem bok (ls : List (List Int)) (h : ls = wAB ∨ ls = wD ∨ ls = wDE ∨ ls = [[101]] ∨ ls = [[102]]) : ∀ r ∈ ls, Bytes r := fun r hr => (wok ls h r hr).1
theorem rm2 (h : St w0 [] D D2 o R w) : Calls Tryz.prog 16 #[.pointer (some ⟨D, 0, none⟩)] w fun e w' => e = .returned (.int .i64 881) ∧ RowKit.Below w.heap.size w w' := by
  have hc := st_room h (DG.ok (g2 false (-4)))
  rw [w_room] at hc
  exact hc
theorem f1 (h : St w0 [] D D2 o R w) : Calls Tryz.prog 17 #[.pointer (some ⟨D, 0, none⟩)] w fun e w' => e = .returned (.int .i64 0) ∧ St w0 [] D { D2 with off := true } o R w' := (st_off h).mono fun _ _ h => ⟨h.1, h.2.1⟩
theorem n1 (h : St w0 [] D { D2 with off := true } o R w) : Calls Tryz.prog 18 #[.pointer (some ⟨D, 0, none⟩), .slice none 0 0] w fun e w' => e = .returned (.int .i64 0) ∧ St w0 [] D D2 o R w' := (st_on0 h (DG.ok (g2 true (-4)))).mono fun _ _ h => ⟨h.1, h.2.1⟩
theorem u1 (h : St w0 [] D D4 o R w) : Calls Tryz.prog 21 #[.pointer (some ⟨D, 0, none⟩), .int .i64 1] w fun e w' => e = .returned (.int .i64 0) ∧ St w0 [] D D5 o R w' := (st_fuse h 1).mono fun _ _ h => ⟨h.1, h.2.1⟩
theorem f2 (h : St w0 [] D D6 o R w) : Calls Tryz.prog 17 #[.pointer (some ⟨D, 0, none⟩)] w fun e w' => e = .returned (.int .i64 8) ∧ St w0 [] D D6 o R w' := (st_off h).mono fun _ _ h => ⟨h.1, h.2.1⟩
theorem n2 (h : St w0 [] D D6 o R w) : Calls Tryz.prog 18 #[.pointer (some ⟨D, 0, none⟩), .slice (some ⟨w.heap.size, 0, none⟩) 2 2] (w.alloc (.cells #[.int .i64 37, .int .i64 0] 3)) fun e w' => e = .returned (.int .i64 0) ∧ St w0 [] D D7 o R w' := by
  have hc := st_on h (DG.ok g6) (some ⟨w.heap.size, 0, none⟩) 2 2 (fun i => if i = 0 then 37 else 0) _ (bel_alloc (RowKit.Below.refl _ w) (.cells #[.int .i64 37, .int .i64 0] 3)) ⟨fun i hi _ => ⟨w.heap.size, 0, rfl, by
    rw [cell_of_row _ _ _ _ _ _ (heap_alloc_new _ _)]
    rcases i with _ | _ | i
    · rfl
    · rfl
    · omega, .inr (Nat.le_refl _)⟩, fun i hi hl => by omega, fun i _ => by dsimp only; split <;> omega, fun i _ => by dsimp only; split <;> omega⟩
  rw [w_on2] at hc
  exact hc.mono fun e w' h => ⟨h.1, h.2.1⟩
theorem a1 {V : Nat} (h : St w0 [] D D1 (some (V, ⟨1, 1, 0, false⟩)) R w) (ht : KTab w0) (v : Value) (hv : RdL w v wAB) : Calls Tryz.prog 14 #[.pointer (some ⟨V, 0, none⟩), v] w fun e w' => e = .returned (.int .i64 0) ∧ St w0 [] D D2 (some (V, ⟨1, 1, 2, false⟩)) R w' := by
  have hc := st_add h g1 (by omega) (by omega) ht v wAB hv (bok _ (.inl rfl)) (by decide) (by decide) (by decide)
  rw [w_add] at hc
  exact hc.mono fun e w' h => ⟨h.1, h.2.1⟩
theorem a2 {V : Nat} (h : St w0 [] D D5 (some (V, ⟨0, 2, 1, false⟩)) R w) (ht : KTab w0) (v : Value) (hv : RdL w v [[101]]) : Calls Tryz.prog 14 #[.pointer (some ⟨V, 0, none⟩), v] w fun e w' => e = .returned (.int .i64 8) ∧ St w0 [] D D6 (some (V, ⟨0, 2, 1, true⟩)) R w' := by
  have hc := st_add h g5 (by omega) (by omega) ht v [[101]] hv (bok _ (.inr (.inr (.inr (.inl rfl))))) (by decide) (by decide) (by decide)
  rw [w_add2] at hc
  exact hc.mono fun e w' h => ⟨h.1, h.2.1⟩
theorem a3 {V : Nat} (h : St w0 [] D D6 (some (V, ⟨0, 2, 1, true⟩)) R w) (ht : KTab w0) (v : Value) (hv : RdL w v [[102]]) : Calls Tryz.prog 14 #[.pointer (some ⟨V, 0, none⟩), v] w fun e w' => e = .returned (.int .i64 3) ∧ St w0 [] D D6 (some (V, ⟨0, 2, 1, true⟩)) R w' := by
  have hc := st_add h g6 (by omega) (by omega) ht v [[102]] hv (bok _ (.inr (.inr (.inr (.inr rfl))))) (by decide) (by decide) (by decide)
  rw [w_add3] at hc
  exact hc.mono fun e w' h => ⟨h.1, h.2.1⟩
theorem c1 {V : Nat} (h : St w0 [] D D3 (some (V, ⟨1, 1, 2, false⟩)) R w) (ht : KTab w0) (v : Value) (hv : RdL w v wD) : Calls Tryz.prog 20 #[.pointer (some ⟨V, 0, none⟩), v] w fun e w' => e = .returned (.int .i64 0) ∧ St w0 [] D D4 (some (V, ⟨0, 2, 1, false⟩)) R w' := by
  have hc := st_comp h (g2 false (-5)) (by omega) (by omega) ht (by decide) v wD hv (bok _ (.inr (.inl rfl))) (by decide) (by decide) (by decide)
  rw [w_comp] at hc
  exact hc.mono fun e w' h => ⟨h.1, h.2.1⟩
end

set_option maxRecDepth 100000 in
set_option maxHeartbeats 4000000 in
theorem works_c (w : World) (ht : KTab w) : Calls Tryz.prog 5 #[] w fun e w' => e = .returned (.bool true) ∧ RowKit.Below w.heap.size w w' := by
  have HT := Lib.hid ht
  have hnew := st_new 1000 w (by omega) (by omega)
  have bab := fun W => bs_c { data := #[97, 98] } [97, 98] 2 rfl rfl W
  have bc := fun W => bs_c { data := #[99] } [99] 1 rfl rfl W
  have bd := fun W => bs_c { data := #[100] } [100] 1 rfl rfl W
  have be := fun W => bs_c { data := #[101] } [101] 1 rfl rfl W
  have bf := fun W => bs_c { data := #[102] } [102] 1 rfl rfl W
  have hmk : ∀ W : World, True := fun _ => trivial
  have HN := Lib.hid hnew; have BAB := Lib.hid bab; have BC := Lib.hid bc; have BD := Lib.hid bd; have BE := Lib.hid be; have BF := Lib.hid bf
  clear hnew bab bc bd be bf hmk ht
  go_enter Tryz.func5, Tryz.ntmps5
  go_wp2_with (first
    | (go_at_call 6; (with_reducible refine HN.out.mono ?_); rintro e w1 ⟨rfl, s1⟩)
    | (go_at_call 11; (with_reducible refine (o0 s1 HT.out).mono ?_); rintro e w2 ⟨V2, p2, q2, rfl, s2⟩)
    | (go_at_call 12; (with_reducible refine (st_gen s2).mono ?_); rintro e x ⟨rfl, hx⟩; obtain rfl := hx.symm)
    | (go_at_call 13; (with_reducible refine (st_len s2).mono ?_); rintro e x ⟨rfl, hx⟩; obtain rfl := hx.symm)
    | (go_at_call 15; (with_reducible refine (BAB.out w2).mono ?_); rintro e w3 ⟨cap3, rfl, t3, b3⟩)
    | (go_at_call 15; (with_reducible refine (BC.out w3).mono ?_); rintro e w4 ⟨cap4, rfl, t4, b4⟩; have bb4 := bel_call b3 b4; have bw4 := bel_alloc bb4 (.cells #[.slice (some ⟨w2.heap.size, 0, none⟩) 2 cap3, .slice (some ⟨w3.heap.size, 0, none⟩) 1 cap4] 40); have s4 := s2.keep bw4; have ba4 := bel_alloc (RowKit.Below.refl w4.heap.size w4) (.cells #[.slice (some ⟨w2.heap.size, 0, none⟩) 2 cap3, .slice (some ⟨w3.heap.size, 0, none⟩) 1 cap4] 40); have r4 := rdl_two (cap := 2) (Nat.le_refl 2) ((t3.keep b4).keep ba4) (t4.keep ba4) (cell_of_row _ _ _ _ _ _ (heap_alloc_new _ _)) (cell_of_row _ _ _ _ _ _ (heap_alloc_new _ _)))
    | (go_at_call 14; (with_reducible refine (a1 s4 HT.out _ r4).mono ?_); rintro e w5 ⟨rfl, s5⟩)
    | (go_at_call 13; (with_reducible refine (st_len s5).mono ?_); rintro e x ⟨rfl, hx⟩; obtain rfl := hx.symm)
    | (go_at_call 16; (with_reducible refine (rm2 s5).mono ?_); rintro e w6 ⟨rfl, b6⟩; have s6 := s5.keep b6)
    | (go_at_call 17; (with_reducible refine (f1 s6).mono ?_); rintro e w7 ⟨rfl, s7⟩)
    | (go_at_call 18; (with_reducible refine (n1 s7).mono ?_); rintro e w8 ⟨rfl, s8⟩)
    | (go_at_call 11; (with_reducible refine (o1 s8 HT.out).mono ?_); rintro e w9 ⟨V9, p9, q9, rfl, s9⟩)
    | (go_at_call 15; (with_reducible refine (BAB.out w9).mono ?_); rintro e w10 ⟨cap10, rfl, t10, b10⟩)
    | (go_at_call 15; (with_reducible refine (BC.out w10).mono ?_); rintro e w11 ⟨cap11, rfl, t11, b11⟩; have bb11 := bel_call b10 b11; have bw11 := bel_alloc bb11 (.cells #[.slice (some ⟨w9.heap.size, 0, none⟩) 2 cap10, .slice (some ⟨w10.heap.size, 0, none⟩) 1 cap11] 40); have s11 := s9.keep bw11; have ba11 := bel_alloc (RowKit.Below.refl w11.heap.size w11) (.cells #[.slice (some ⟨w9.heap.size, 0, none⟩) 2 cap10, .slice (some ⟨w10.heap.size, 0, none⟩) 1 cap11] 40); have r11 := rdl_two (cap := 2) (Nat.le_refl 2) ((t10.keep b11).keep ba11) (t11.keep ba11) (cell_of_row _ _ _ _ _ _ (heap_alloc_new _ _)) (cell_of_row _ _ _ _ _ _ (heap_alloc_new _ _)); have l11 := s11.rdl (List.mem_cons_self ..))
    | (go_at_call 19; (with_reducible refine (same_c _ _ wAB wAB _ l11 r11 (bok _ (.inl rfl)) (bok _ (.inl rfl)) (by decide)).mono ?_); rintro e w12 ⟨rfl, b12⟩; have s12 := s11.keep b12)
    | (go_at_call 15; (with_reducible refine (BD.out w12).mono ?_); rintro e w13 ⟨cap13, rfl, t13, b13⟩; have bw13 := bel_alloc b13 (.cells #[.slice (some ⟨w12.heap.size, 0, none⟩) 1 cap13] 40); have s13 := s12.keep bw13; have ba13 := bel_alloc (RowKit.Below.refl w13.heap.size w13) (.cells #[.slice (some ⟨w12.heap.size, 0, none⟩) 1 cap13] 40); have r13 := rdl_one (cap := 1) (Nat.le_refl 1) (t13.keep ba13) (cell_of_row _ _ _ _ _ _ (heap_alloc_new _ _)))
    | (go_at_call 20; (with_reducible refine (c1 s13 HT.out _ r13).mono ?_); rintro e w14 ⟨rfl, s14⟩)
    | (go_at_call 12; (with_reducible refine (st_gen s14).mono ?_); rintro e x ⟨rfl, hx⟩; obtain rfl := hx.symm)
    | (go_at_call 13; (with_reducible refine (st_len s14).mono ?_); rintro e x ⟨rfl, hx⟩; obtain rfl := hx.symm)
    | (go_at_call 21; (with_reducible refine (u1 s14).mono ?_); rintro e w15 ⟨rfl, s15⟩)
    | (go_at_call 15; (with_reducible refine (BE.out w15).mono ?_); rintro e w16 ⟨cap16, rfl, t16, b16⟩; have bw16 := bel_alloc b16 (.cells #[.slice (some ⟨w15.heap.size, 0, none⟩) 1 cap16] 40); have s16 := s15.keep bw16; have ba16 := bel_alloc (RowKit.Below.refl w16.heap.size w16) (.cells #[.slice (some ⟨w15.heap.size, 0, none⟩) 1 cap16] 40); have r16 := rdl_one (cap := 1) (Nat.le_refl 1) (t16.keep ba16) (cell_of_row _ _ _ _ _ _ (heap_alloc_new _ _)))
    | (go_at_call 14; (with_reducible refine (a2 s16 HT.out _ r16).mono ?_); rintro e w17 ⟨rfl, s17⟩)
    | (go_at_call 15; (with_reducible refine (BF.out w17).mono ?_); rintro e w18 ⟨cap18, rfl, t18, b18⟩; have bw18 := bel_alloc b18 (.cells #[.slice (some ⟨w17.heap.size, 0, none⟩) 1 cap18] 40); have s18 := s17.keep bw18; have ba18 := bel_alloc (RowKit.Below.refl w18.heap.size w18) (.cells #[.slice (some ⟨w17.heap.size, 0, none⟩) 1 cap18] 40); have r18 := rdl_one (cap := 1) (Nat.le_refl 1) (t18.keep ba18) (cell_of_row _ _ _ _ _ _ (heap_alloc_new _ _)))
    | (go_at_call 14; (with_reducible refine (a3 s18 HT.out _ r18).mono ?_); rintro e w19 ⟨rfl, s19⟩)
    | (go_at_call 17; (with_reducible refine (f2 s19).mono ?_); rintro e w20 ⟨rfl, s20⟩)
    | (go_at_call 18; (with_reducible refine (n2 s20).mono ?_); rintro e w21 ⟨rfl, s21⟩)
    | (go_at_call 11; (with_reducible refine (o2 s21 HT.out).mono ?_); rintro e w22 ⟨V22, p22, q22, rfl, s22⟩)
    | (go_at_call 15; (with_reducible refine (BD.out w22).mono ?_); rintro e w23 ⟨cap23, rfl, t23, b23⟩)
    | (go_at_call 15; (with_reducible refine (BE.out w23).mono ?_); rintro e w24 ⟨cap24, rfl, t24, b24⟩; have bb24 := bel_call b23 b24; have bw24 := bel_alloc bb24 (.cells #[.slice (some ⟨w22.heap.size, 0, none⟩) 1 cap23, .slice (some ⟨w23.heap.size, 0, none⟩) 1 cap24] 40); have s24 := s22.keep bw24; have ba24 := bel_alloc (RowKit.Below.refl w24.heap.size w24) (.cells #[.slice (some ⟨w22.heap.size, 0, none⟩) 1 cap23, .slice (some ⟨w23.heap.size, 0, none⟩) 1 cap24] 40); have r24 := rdl_two (cap := 2) (Nat.le_refl 2) ((t23.keep b24).keep ba24) (t24.keep ba24) (cell_of_row _ _ _ _ _ _ (heap_alloc_new _ _)) (cell_of_row _ _ _ _ _ _ (heap_alloc_new _ _)); have l24 := s24.rdl (List.mem_cons_self ..))
    | (go_at_call 19; (with_reducible refine (same_c _ _ wDE wDE _ l24 r24 (bok _ (.inr (.inr (.inl rfl)))) (bok _ (.inr (.inr (.inl rfl)))) (by decide)).mono ?_); rintro e w25 ⟨rfl, b25⟩; have s25 := s24.keep b25)
    | fail)
  go_ret
  exact ⟨rfl, s25.below⟩
end Go.Proofs.YtfohemgfiidokaaGreatDoor
