/- The walk of OctetBack. -/
import Derived.Test.YtoeooabaofpngaaOv
import Derived.Test.YtoeooabaofpngaaOz
import Derived.Test.YtoeooabaofpngaaHd
import Derived.Test.YtoeooabaofpngaaAp
import Derived.Test.YtoeooabaofpngaaOk
namespace Go.Proofs.Ytoeooabaofpngaa
open Go.RowKit Go.Sort
theorem tvarB_bd (ys : List Int) (i : Int) (hb : Bytes ys) (hl : ys.length ≤ 100000000) : 0 ≤ (tvarB ys i).1 ∧ (tvarB ys i).1 ≤ 18446744073709551615 := by
  have h2 : ∀ p s, 0 ≤ (tvar2 ys p s).1 ∧ (tvar2 ys p s).1 ≤ 18446744073709551615 := fun p s => by
    have := takeB_bd (i := p) (s := s) hb hl
    unfold tvar2
    split
    · simp
    · exact ⟨this.1, this.2.1⟩
  have h1 := takeB_bd (i := i) (s := 1) hb hl
  unfold tvarB tvar1
  split
  · simp
  split
  · exact h2 _ _
  split
  · exact h2 _ _
  split
  · exact h2 _ _
  · exact ⟨h1.1, h1.2.1⟩
set_option maxRecDepth 100000 in
set_option maxHeartbeats 8000000 in
theorem back_t (v0 v1 : Value) (xs ys : List Int) (n a : Int) (w : World) (h : RdB w v0 xs) (hb : Bytes xs) (h' : RdB w v1 ys) (hb' : Bytes ys) (h0 : 0 ≤ n) (h1 : n ≤ 18446744073709551615) (a0 : 0 ≤ a) (a1 : a ≤ 255) :
    Calls Try.prog 6 #[v0, v1, .int .u64 n, .int .u8 a] w fun e w' => e = .returned (.bool true) ∧ Below w.heap.size w w' := by
  have kw := works_c
  have kv0 := fun W hW => vast_c v0 xs W hW
  have kv1 := fun W hW => vast_c v1 ys W hW
  by_cases hx : 16384 < xs.length
  · rw [decide_eq_true hx] at kv0
    go_enter Try.func6, Try.ntmps6
    go_wp2_with first
      | (go_at_call 8; with_reducible refine (kv0 _ h).mono ?_; rintro e w1 ⟨rfl, rfl⟩)
      | (go_at_call 9; with_reducible refine (kw _).mono ?_; rintro e w2 ⟨rfl, hb2⟩)
    go_ret
    exact ⟨rfl, hb2⟩
  rw [decide_eq_false hx] at kv0
  by_cases hy : 16384 < ys.length
  · rw [decide_eq_true hy] at kv1
    go_enter Try.func6, Try.ntmps6
    go_wp2_with first
      | (go_at_call 8; with_reducible refine (kv0 _ h).mono ?_; rintro e w1 ⟨rfl, rfl⟩; clear kv0)
      | (go_at_call 8; with_reducible refine (kv1 _ h').mono ?_; rintro e w1 ⟨rfl, rfl⟩)
      | (go_at_call 9; with_reducible refine (kw _).mono ?_; rintro e w2 ⟨rfl, hb2⟩)
    go_ret
    exact ⟨rfl, hb2⟩
  rw [decide_eq_false hy] at kv1
  have m : ∃ (s : Int) (k : Nat) (K L : Int), a % 4 = s ∧ (s = 0 ∧ K = 1 ∧ L = n % 256 ∨ s = 1 ∧ K = 2 ∧ L = n % 65536 ∨ s = 2 ∧ K = 4 ∧ L = n % 4294967296 ∨ s = 3 ∧ K = 8 ∧ n = L) ∧ okz k = true ∧ n % 256 ^ k = L ∧ (k : Int) = K := by
    rcases (show a % 4 = 0 ∨ a % 4 = 1 ∨ a % 4 = 2 ∨ a % 4 = 3 by omega) with e | e | e | e
    · exact ⟨_, 1, _, _, e, .inl ⟨rfl, rfl, rfl⟩, rfl, rfl, rfl⟩
    · exact ⟨_, 2, _, _, e, .inr (.inl ⟨rfl, rfl, rfl⟩), rfl, rfl, rfl⟩
    · exact ⟨_, 4, _, _, e, .inr (.inr (.inl ⟨rfl, rfl, rfl⟩)), rfl, rfl, rfl⟩
    · exact ⟨_, 8, _, _, e, .inr (.inr (.inr ⟨rfl, rfl, rfl⟩)), rfl, Int.emod_eq_of_lt h0 (by show n < 18446744073709551616; omega), rfl⟩
  obtain ⟨s, k, K, L, hs, hc, hok, hL, hK⟩ := m
  have kput := fun W hW => put_c v0 xs n K W hW (by omega) h0 h1
  have kpv := fun W hW => putvar_c v0 xs n W hW (by omega) h0 h1
  have hKb : 1 ≤ K ∧ K ≤ 8 := by omega
  have hbt := back_take xs ys n k hok
  have hbv := back_var xs ys n h0 h1
  rw [hL, hK] at hbt
  rw [hK] at hok
  have hpl := putB_len xs n K
  have hlp : ((putB xs n K).length : Int) = xs.length + K := by
    unfold putB; rw [if_pos hok, List.length_append, low_length]; omega
  have hbb : Bytes (putB xs n K ++ ys) := (putB_bytes hb n K).append hb'
  have hvl := varB_len n
  have hvb : Bytes (varB n) := by
    unfold varB
    split
    · exact low_bytes _ _
    split
    · intro b hb; rcases List.mem_cons.1 hb with rfl | hb; omega; exact low_bytes _ _ b hb
    split
    · intro b hb; rcases List.mem_cons.1 hb with rfl | hb; omega; exact low_bytes _ _ b hb
    · intro b hb; rcases List.mem_cons.1 hb with rfl | hb; omega; exact low_bytes _ _ b hb
  have hbc : Bytes (xs ++ varB n ++ ys) := (hb.append hvb).append hb'
  have kt : ∀ W v, RdB W v (putB xs n K ++ ys) → Calls Try.prog 11 #[v, .int .i64 xs.length, .int .i64 K] W fun e w' => e = .returned (.tuple #[.int .u64 L, .int .i64 ((xs.length : Int) + K), .int .i64 0]) ∧ w' = W := fun W v hv => by
    have := take_c v _ xs.length K W hv hbb (by rw [List.length_append]; omega) ⟨by omega, by omega⟩ ⟨by omega, by omega⟩
    rw [hbt] at this
    exact this
  have ktv : ∀ W v, RdB W v (xs ++ varB n ++ ys) → Calls Try.prog 25 #[v, .int .i64 xs.length] W fun e w' => e = .returned (.tuple #[.int .u64 n, .int .i64 ((xs.length : Int) + ((varB n).length : Nat)), .int .i64 0]) ∧ w' = W := fun W v hv => by
    have := takevar_c v _ xs.length W hv hbc (by rw [List.length_append, List.length_append]; omega) ⟨by omega, by omega⟩
    rw [hbv] at this
    exact this
  have kf := fun W hW => takevar_c v1 ys 0 W hW hb' (by omega) ⟨by omega, by omega⟩
  have hfr := back_front ys hb'
  have hbd := takeB_bd (i := 0) (s := 1) hb' (by omega)
  clear hbt hbv hbb hbc hvb hL
  have hvn : 1 ≤ (varB n).length ∧ (varB n).length ≤ 9 := hvl
  obtain ⟨bs, hbs⟩ : ∃ bs, bs = putB xs n K := ⟨_, rfl⟩
  rw [← hbs] at kput kt hlp hpl
  obtain ⟨cs, hcs⟩ : ∃ cs, cs = xs ++ varB n := ⟨_, rfl⟩
  rw [← hcs] at kpv ktv
  have hcl : (cs.length : Int) = xs.length + ((varB n).length : Nat) := by rw [hcs, List.length_append]; simp
  generalize (varB n).length = vl at *
  clear hbs hcs
  have hv0 : ∃ p c, v0 = .slice p xs.length c ∧ xs.length ≤ c := by
    rcases h with ⟨rfl, rfl⟩ | ⟨a, g, o, cap, rfl, hc, -, -⟩
    · exact ⟨_, _, rfl, Nat.le_refl _⟩
    · exact ⟨_, _, rfl, hc⟩
  obtain ⟨p0, c0, rfl, -⟩ := hv0
  obtain ⟨r, hr⟩ : ∃ r, r = tvarB ys 0 := ⟨_, rfl⟩
  have hz0 := tvarB_bd ys 0 hb' (by omega)
  rw [← hr] at kf hfr hz0
  obtain ⟨z, en, g⟩ := r
  unfold tri at kf
  simp only at kf hfr hz0
  clear hr hbd
  have H := Lib.hid h; have H' := Lib.hid h'
  clear h h'
  rcases hc with ⟨rfl, rfl, rfl⟩ | ⟨rfl, rfl, rfl⟩ | ⟨rfl, rfl, rfl⟩ | ⟨rfl, rfl, rfl⟩
  all_goals
    go_enter Try.func6, Try.ntmps6
    go_upto_region 7 with first
      | (go_at_call 8; with_reducible refine (kv0 _ H.out).mono ?_; rintro e w1 ⟨rfl, rfl⟩; clear kv0)
      | (go_at_call 8; with_reducible refine (kv1 _ H'.out).mono ?_; rintro e w1 ⟨rfl, rfl⟩)
    have ha := Below.refl w1.heap.size w1
    go_upto_region 8 with (go_at_call 10; with_reducible refine (kput _ H.out).mono ?_; rintro e w2 ⟨vb, rfl, hb2, hl2⟩; have ha := bel_call ha hl2)
    have hbrd := hb2.rd
    obtain ⟨pb, cb, rfl⟩ : ∃ p c, vb = .slice p bs.length c := by
      rcases hbrd with ⟨rfl, rfl⟩ | ⟨a, g, o, cap, rfl, hc, -, -⟩
      · exact ⟨_, _, rfl⟩
      · exact ⟨_, _, rfl⟩
    go_upto_region 9 with first
      | (go_at_call 12; with_reducible refine (copied_c _ bs _ hbrd (by omega)).mono ?_; rintro e w3 ⟨v3, rfl, hr3, hl3⟩; have ha3 := bel_call ha hl3; have HS3 := hl3.size)
      | (at_builtin; go_loud (refine wpList_append_rd rfl _ _ rfl w2.heap.size HS3 _ bs rfl hr3 _ ys rfl (H'.out.keep ha3) (by omega) ?_; intro v4 w4 hr4 hg4; have hl4 := grown_below hr3 hl3 HS3 hg4; have ha := bel_call ha hl4))
      | (go_at_call 11; with_reducible refine (kt _ _ hr4.rd).mono ?_; rintro e w5 ⟨rfl, rfl⟩)
    clear hr3 hl3 ha3 HS3 hg4 hl4 hr4 hb2 hl2 hbrd kput kt
    go_upto_region 10 with (go_at_call 24; with_reducible refine (kpv _ (H.out.keep ha)).mono ?_; rintro e w6 ⟨vc, rfl, hb2, hl2⟩; have ha := bel_call ha hl2)
    have hcrd := hb2.rd
    obtain ⟨pc, cc, rfl⟩ : ∃ p c, vc = .slice p cs.length c := by
      rcases hcrd with ⟨rfl, rfl⟩ | ⟨a, g, o, cap, rfl, hc, -, -⟩
      · exact ⟨_, _, rfl⟩
      · exact ⟨_, _, rfl⟩
    go_upto_region 11 with first
      | (go_at_call 12; with_reducible refine (copied_c _ cs _ hcrd (by omega)).mono ?_; rintro e w7 ⟨v7, rfl, hr3, hl3⟩; have ha3 := bel_call ha hl3; have HS3 := hl3.size)
      | (at_builtin; go_loud (refine wpList_append_rd rfl _ _ rfl w6.heap.size HS3 _ cs rfl hr3 _ ys rfl (H'.out.keep ha3) (by omega) ?_; intro v8 w8 hr4 hg4; have hl4 := grown_below hr3 hl3 HS3 hg4; have ha := bel_call ha hl4))
      | (go_at_call 25; with_reducible refine (ktv _ _ hr4.rd).mono ?_; rintro e w9 ⟨rfl, rfl⟩)
    clear hr3 hl3 ha3 HS3 hg4 hl4 hr4 hb2 hl2 hcrd kpv ktv
    go_upto_region 13 with fail
    go_upto_region 14 with (go_at_call 25; with_reducible refine (kf _ (H'.out.keep ha)).mono ?_; rintro e w10 ⟨rfl, rfl⟩)
    rcases hfr with ⟨rfl, rfl, rfl⟩ | ⟨rfl, e, rfl, he0, he1, hpre⟩
    · go_wp2_with (go_at_call 9; with_reducible refine (kw _).mono ?_; rintro e w14 ⟨rfl, hb6⟩; have ha := bel_call ha hb6)
      go_ret
      exact ⟨rfl, ha⟩
    · go_upto_region 16 with fail
      rcases H'.out.keep ha with ⟨rfl, rfl⟩ | ⟨a', g, o, cap, rfl, hc, ha', hcell⟩
      · rw [List.length_nil] at he1; omega
      obtain rfl := ha' (by omega)
      have hpr := rd_part (j := 0) (z := e) (cap := cap) hcell (by omega) (by omega)
      rw [List.drop_zero, ← hpre, Nat.add_zero] at hpr
      have hel : (varB z).length = e := by rw [hpre, List.length_take]; omega
      have hc0 : (0 : Int) ≤ e := by omega
      have hc1 : (e : Int) ≤ cap := by omega
      have hc2 : (0 : Int) < e := by omega
      have hc3 : (e : Int) ≤ ys.length := by omega
      have HEL := Lib.hid hel
      have hacc : Below w10.heap.size w10 w10.drew := below_drewN w10 1
      have kpz := fun W => putvar_c (.slice none 0 0) [] z W (.inl ⟨rfl, rfl⟩) (by simp) hz0.1 hz0.2
      rw [List.nil_append] at kpz
      clear hpre hcell hel ha' H' kf
      generalize varB z = VZ at *
      refine wp_region_noPanic ?_
      refine wp_region_held_drew (S := (fun _ => True)) (by kernel_rfl) (trivial) (fun hHeld => ?_)
      refine wpAnyH_take (i := 0) (oi := ?_) (v := ?_) ?_ (by kernel_rfl) (by kernel_rfl) (by kernel_rfl) ?_ (Or.inl ⟨?_, ?_⟩) (by assumption) ?_
      rotate_left 2
      · simp only [List.getElem?_toArray, List.getElem?_cons_zero]; rfl
      · exact fun _ _ _ h => h
      · rfl
      · (intro w hSw; (try dsimp only at hSw); go_simp) <;> with_reducible rfl
      try simp only [Act.put, List.setIfInBounds_toArray, List.set_cons_zero, List.set_cons_succ]
      refine wpAnyH_take (i := 1) (oi := ?_) (v := ?_) ?_ (by kernel_rfl) (by kernel_rfl) (by kernel_rfl) ?_ (Or.inl ⟨?_, ?_⟩) (by assumption) ?_
      rotate_left 2
      · simp only [List.getElem?_toArray, List.getElem?_cons_succ, List.getElem?_cons_zero]; rfl
      · exact fun _ _ _ h => h
      · rfl
      · (intro w hSw; (try dsimp only at hSw); go_simp) <;> with_reducible rfl
      try simp only [Act.put, List.setIfInBounds_toArray, List.set_cons_zero, List.set_cons_succ]
      refine wpAnyH_take (i := 2) (oi := ?_) (v := ?_) ?_ (by kernel_rfl) (by kernel_rfl) (by kernel_rfl) ?_ (Or.inl ⟨?_, ?_⟩) (by assumption) ?_
      rotate_left 2
      · simp only [List.getElem?_toArray, List.getElem?_cons_succ, List.getElem?_cons_zero]; rfl
      · exact fun _ _ _ h => h
      · rfl
      · (intro w hSw; (try dsimp only at hSw); go_simp) <;> with_reducible rfl
      try simp only [Act.put, List.setIfInBounds_toArray, List.set_cons_zero, List.set_cons_succ]
      refine wpAnyH_take (i := 3) (oi := ?_) (v := ?_) ?_ (by kernel_rfl) (by kernel_rfl) (by kernel_rfl) ?_ (Or.inl ⟨?_, ?_⟩) (by assumption) ?_
      rotate_left 2
      · simp only [List.getElem?_toArray, List.getElem?_cons_succ, List.getElem?_cons_zero]; rfl
      · exact fun _ _ _ h => h
      · rfl
      · (intro w hSw; (try dsimp only at hSw); go_simp) <;> with_reducible rfl
      try simp only [Act.put, List.setIfInBounds_toArray, List.set_cons_zero, List.set_cons_succ]
      refine wpAnyH_take (i := 4) (oi := ?_) (v := ?_) ?_ (by kernel_rfl) (by kernel_rfl) (by kernel_rfl) ?_ (Or.inl ⟨?_, ?_⟩) (by assumption) ?_
      rotate_left 2
      · simp only [List.getElem?_toArray, List.getElem?_cons_succ, List.getElem?_cons_zero]; rfl
      · exact fun _ _ _ h => h
      · rfl
      · (intro w hSw; (try dsimp only at hSw); go_simp) <;> with_reducible rfl
      try simp only [Act.put, List.setIfInBounds_toArray, List.set_cons_zero, List.set_cons_succ]
      refine wpAnyH_take (i := 5) (oi := ?_) (v := ?_) ?_ (by kernel_rfl) (by kernel_rfl) (by kernel_rfl) ?_ (Or.inl ⟨?_, ?_⟩) (by assumption) ?_
      rotate_left 2
      · simp only [List.getElem?_toArray, List.getElem?_cons_succ, List.getElem?_cons_zero]; rfl
      · exact fun _ _ _ h => h
      · rfl
      · (intro w hSw; (try dsimp only at hSw); go_simp) <;> with_reducible rfl
      try simp only [Act.put, List.setIfInBounds_toArray, List.set_cons_zero, List.set_cons_succ]
      refine wpAnyH_take (i := 6) (oi := ?_) (v := ?_) ?_ (by kernel_rfl) (by kernel_rfl) (by kernel_rfl) ?_ (Or.inl ⟨?_, ?_⟩) (by assumption) ?_
      rotate_left 2
      · simp only [List.getElem?_toArray, List.getElem?_cons_succ, List.getElem?_cons_zero]; rfl
      · exact fun _ _ _ h => h
      · rfl
      · (intro w hSw; (try dsimp only at hSw); go_simp) <;> with_reducible rfl
      try simp only [Act.put, List.setIfInBounds_toArray, List.set_cons_zero, List.set_cons_succ]
      refine wpAnyH_take (i := 7) (oi := ?_) (v := ?_) ?_ (by kernel_rfl) (by kernel_rfl) (by kernel_rfl) ?_ (Or.inl ⟨?_, ?_⟩) (by assumption) ?_
      rotate_left 2
      · simp only [List.getElem?_toArray, List.getElem?_cons_succ, List.getElem?_cons_zero]; rfl
      · exact fun _ _ _ h => h
      · rfl
      · (intro w hSw; (try dsimp only at hSw); go_simp) <;> with_reducible rfl
      try simp only [Act.put, List.setIfInBounds_toArray, List.set_cons_zero, List.set_cons_succ]
      refine wpAnyH_take (i := 8) (oi := ?_) (v := ?_) ?_ (by kernel_rfl) (by kernel_rfl) (by kernel_rfl) ?_ (Or.inl ⟨?_, ?_⟩) (by assumption) ?_
      rotate_left 2
      · simp only [List.getElem?_toArray, List.getElem?_cons_succ, List.getElem?_cons_zero]; rfl
      · exact fun _ _ _ h => h
      · rfl
      · (intro w hSw; (try dsimp only at hSw); go_simp) <;> with_reducible rfl
      try simp only [Act.put, List.setIfInBounds_toArray, List.set_cons_zero, List.set_cons_succ]
      refine wpAnyH_take (i := 9) (oi := ?_) (v := ?_) ?_ (by kernel_rfl) (by kernel_rfl) (by kernel_rfl) ?_ (Or.inl ⟨?_, ?_⟩) (by assumption) ?_
      rotate_left 2
      · simp only [List.getElem?_toArray, List.getElem?_cons_succ, List.getElem?_cons_zero]; rfl
      · exact fun _ _ _ h => h
      · rfl
      · (intro w hSw; (try dsimp only at hSw); go_simp) <;> with_reducible rfl
      try simp only [Act.put, List.setIfInBounds_toArray, List.set_cons_zero, List.set_cons_succ]
      refine wpAnyH_take (i := 11) (oi := ?_) (v := ?_) ?_ (by kernel_rfl) (by kernel_rfl) (by kernel_rfl) ?_ (Or.inl ⟨?_, ?_⟩) (by assumption) ?_
      rotate_left 2
      · simp only [List.getElem?_toArray, List.getElem?_cons_succ, List.getElem?_cons_zero]; rfl
      · exact fun _ _ _ h => h
      · rfl
      · (intro w hSw; (try dsimp only at hSw); go_simp) <;> with_reducible rfl
      try simp only [Act.put, List.setIfInBounds_toArray, List.set_cons_zero, List.set_cons_succ]
      refine wpAnyH_take (i := 12) (oi := ?_) (v := ?_) ?_ (by kernel_rfl) (by kernel_rfl) (by kernel_rfl) ?_ (Or.inl ⟨?_, ?_⟩) (by assumption) ?_
      rotate_left 2
      · simp only [List.getElem?_toArray, List.getElem?_cons_succ, List.getElem?_cons_zero]; rfl
      · exact fun _ _ _ h => h
      · rfl
      · (intro w hSw; (try dsimp only at hSw); go_simp) <;> with_reducible rfl
      try simp only [Act.put, List.setIfInBounds_toArray, List.set_cons_zero, List.set_cons_succ]
      refine wpAnyH_take (i := 13) (oi := ?_) (v := ?_) ?_ (by kernel_rfl) (by kernel_rfl) (by kernel_rfl) ?_ (Or.inl ⟨?_, ?_⟩) (by assumption) ?_
      rotate_left 2
      · simp only [List.getElem?_toArray, List.getElem?_cons_succ, List.getElem?_cons_zero]; rfl
      · exact fun _ _ _ h => h
      · rfl
      · (intro w hSw; (try dsimp only at hSw); go_simp) <;> with_reducible rfl
      try simp only [Act.put, List.setIfInBounds_toArray, List.set_cons_zero, List.set_cons_succ]
      refine wpAnyH_one 10 (o := ?_) (by kernel_rfl) ?_ (fun K hK => ?_)
      rotate_left 1
      · simp only [List.getElem?_toArray, List.getElem?_cons_succ, List.getElem?_cons_zero]; rfl
      go_simp
      refine (kpz _).mono ?_; rintro e w11 ⟨vp, rfl, hp, hb11⟩; have hacc := bel_call hacc hb11
      refine hK.out _ _ (trivial) (fun hH => ?_)
      clear hHeld; have hHeld := hH; clear hH hK K
      try simp only [Act.put, List.setIfInBounds_toArray, List.set_cons_zero, List.set_cons_succ]
      refine wpAnyH_one 14 (o := ?_) (by kernel_rfl) ?_ (fun K hK => ?_)
      rotate_left 1
      · simp only [List.getElem?_toArray, List.getElem?_cons_succ, List.getElem?_cons_zero]; rfl
      go_simp
      refine (same_c _ _ VZ VZ _ hp.rd (hpr.keep hacc) (by have := HEL.out; omega) (by have := HEL.out; omega)).mono ?_; rintro e w12 ⟨rfl, hb12⟩; rw [decide_eq_true rfl]; have hacc := bel_call hacc hb12
      refine hK.out _ _ (trivial) (fun hH => ?_)
      clear hHeld; have hHeld := hH; clear hH hK K
      try simp only [Act.put, List.setIfInBounds_toArray, List.set_cons_zero, List.set_cons_succ]
      refine wpAnyH_take (i := 15) (oi := ?_) (v := ?_) ?_ (by kernel_rfl) (by kernel_rfl) (by kernel_rfl) ?_ (Or.inl ⟨?_, ?_⟩) (by assumption) ?_
      rotate_left 2
      · simp only [List.getElem?_toArray, List.getElem?_cons_succ, List.getElem?_cons_zero]; rfl
      · exact fun _ _ _ h => h
      · rfl
      · (intro w hSw; (try dsimp only at hSw); go_simp) <;> with_reducible rfl
      try simp only [Act.put, List.setIfInBounds_toArray, List.set_cons_zero, List.set_cons_succ]
      refine wpAnyH_take (i := 16) (oi := ?_) (v := ?_) ?_ (by kernel_rfl) (by kernel_rfl) (by kernel_rfl) ?_ (Or.inl ⟨?_, ?_⟩) (by assumption) ?_
      rotate_left 2
      · simp only [List.getElem?_toArray, List.getElem?_cons_succ, List.getElem?_cons_zero]; rfl
      · exact fun _ _ _ h => h
      · rfl
      · (intro w hSw; (try dsimp only at hSw); go_simp) <;> with_reducible rfl
      try simp only [Act.put, List.setIfInBounds_toArray, List.set_cons_zero, List.set_cons_succ]
      refine wpAnyH_one 17 (o := ?_) (by kernel_rfl) ?_ (fun K hK => ?_)
      rotate_left 1
      · simp only [List.getElem?_toArray, List.getElem?_cons_succ, List.getElem?_cons_zero]; rfl
      go_simp
      refine (kw _).mono ?_; rintro e w13 ⟨rfl, hb13⟩; have hacc := bel_call hacc hb13
      refine hK.out _ _ (trivial) (fun hH => ?_)
      clear hHeld; have hHeld := hH; clear hH hK K
      try simp only [Act.put, List.setIfInBounds_toArray, List.set_cons_zero, List.set_cons_succ]
      refine wpAnyH_take (i := 18) (oi := ?_) (v := ?_) ?_ (by kernel_rfl) (by kernel_rfl) (by kernel_rfl) ?_ (Or.inl ⟨?_, ?_⟩) (by assumption) ?_
      rotate_left 2
      · simp only [List.getElem?_toArray, List.getElem?_cons_succ, List.getElem?_cons_zero]; rfl
      · exact fun _ _ _ h => h
      · rfl
      · (intro w hSw; (try dsimp only at hSw); go_simp) <;> with_reducible rfl
      try simp only [Act.put, List.setIfInBounds_toArray, List.set_cons_zero, List.set_cons_succ]
      refine wpAnyH_take (i := 19) (oi := ?_) (v := ?_) ?_ (by kernel_rfl) (by kernel_rfl) (by kernel_rfl) ?_ (Or.inl ⟨?_, ?_⟩) (by assumption) ?_
      rotate_left 2
      · simp only [List.getElem?_toArray, List.getElem?_cons_succ, List.getElem?_cons_zero]; rfl
      · exact fun _ _ _ h => h
      · rfl
      · (intro w hSw; (try dsimp only at hSw); go_simp) <;> with_reducible rfl
      try simp only [Act.put, List.setIfInBounds_toArray, List.set_cons_zero, List.set_cons_succ]
      refine wpAnyH_done (by kernel_rfl) ?_ _
      refine NoPanic.normal ?_
      try simp only [Act.put, List.setIfInBounds_toArray, List.set_cons_zero, List.set_cons_succ]
      go_wp2
      go_ret
      exact ⟨rfl, bel_call ha hacc⟩
end Go.Proofs.Ytoeooabaofpngaa
